/- The law PartitionPlays, walked. -/
import Derived.Test.YtpeaojkbfllakaaRefF
namespace Go.Proofs.Ytpeaojkbfllakaa
open Go.RowKit

structure AV where
  d : Int
  gap : Int
  raw : Int
  a : Int
  b : Int
  c : Bool
structure AV.ok (x : AV) : Prop where
  d0 : 0 ≤ x.d
  d1 : x.d ≤ 255
  g0 : 0 ≤ x.gap
  g1 : x.gap ≤ 255

/-- A slice of acts that lies below block B. -/
def ActsAt (w : World) (B : Nat) (A : Option Addr) (l : List AV) : Prop :=
  ∀ k x, l[k]? = some x → ∃ b o, A = some ⟨b, o, none⟩ ∧ b < B ∧ w.cell? ⟨b, o + k * 6, none⟩ = some (.int .u8 x.d) ∧ w.cell? ⟨b, o + k * 6 + 1, none⟩ = some (.int .u8 x.gap) ∧
    w.cell? ⟨b, o + k * 6 + 2, none⟩ = some (I64 x.raw) ∧ w.cell? ⟨b, o + k * 6 + 3, none⟩ = some (I64 x.a) ∧ w.cell? ⟨b, o + k * 6 + 4, none⟩ = some (I64 x.b) ∧ w.cell? ⟨b, o + k * 6 + 5, none⟩ = some (.bool x.c)
theorem ActsAt.below {w w' : World} {B : Nat} {A : Option Addr} {l : List AV} (h : ActsAt w B A l) (hb : Below B w w') : ActsAt w' B A l := by
  intro k x hx
  obtain ⟨b, o, hA, hl, h0, h1, h2, h3, h4, h5⟩ := h k x hx
  refine ⟨b, o, hA, hl, ?_, ?_, ?_, ?_, ?_, ?_⟩ <;> (rw [hb.cell (by exact hl)]; assumption)
theorem RIs.mono {w : World} {base b0 rb rp : Nat} {m : Mtr} (h : RIs w base rb rp m) (hb : b0 ≤ base) : RIs w b0 rb rp m := by
  obtain ⟨cap, v, me, parts, own, ge⟩ := h
  exact ⟨cap, v, me, parts, own_base own hb, by omega⟩

theorem plays_big (W P : Int) (A : Option Addr) (n cap : Nat) (A2 : Option Addr) (n2 cap2 : Nat) (w : World) (h : 20 < n ∨ 60 < n2) (hm : n ≤ maxLen) (hm2 : n2 ≤ maxLen) :
    Calls Try.prog 6 #[.agg #[I64 W, I64 P, .slice A n cap], .slice A2 n2 cap2] w fun e w' => e = .returned (.bool true) ∧ Only [] w w' := by
  unfold maxLen at hm hm2
  have hh : 20 < n ∨ (n ≤ 20 ∧ 60 < n2) := by omega
  clear h
  rcases hh with h | ⟨h, h'⟩
  all_goals
    go_enter Try.func6, Try.ntmps6
    go_wp2_with fail
    refine (awake_ok _).mono ?_
    rintro e w4 ⟨rfl, ho4⟩
    go_wp2
    go_ret
    exact ⟨rfl, ((Only.refl _ _).alloc _).trans ho4⟩

def PlayRel (w : World) (base b pb rb rp : Nat) (k : Nat) (nw : Value) (wr : World) : Prop :=
  ∃ (t : Int) (m : Mtr), nw = I64 t ∧ 0 ≤ t ∧ t ≤ 255 * k ∧ Both wr base b pb rb rp m ∧ m.l.length ≤ k ∧ Below base w wr

set_option maxRecDepth 100000 in
set_option maxHeartbeats 8000000 in
theorem plays_good (W P : Int) (A : Option Addr) (l : List (Int × Int)) (n cap : Nat) (A2 : Option Addr) (al : List AV) (cap2 : Nat) (w : World) (hA : PartsIn w w.heap.size A l) (hln : l.length = n) (hcap : n ≤ cap) (hc : chk W P l = 0)
    (hl : al.length ≤ 60) (hok : ∀ x ∈ al, x.ok) (hA2 : ActsAt w w.heap.size A2 al) :
    Calls Try.prog 6 #[.agg #[I64 W, I64 P, .slice A n cap], .slice A2 al.length cap2] w fun e w' => e = .returned (.bool true) ∧ Below w.heap.size w w' := by
  have hn8 : n ≤ 8 := by have := (chk_zero hc).1.2.2.2.2.2.1; dsimp only at this; omega
  have ho := (Only.refl [] w).alloc (.cells #[I64 W, I64 P, .slice A n cap] 24)
  have hbx := Blk.new w 24 [I64 W, I64 P, .slice A n cap]
  have knew := new_yes W P A l cap (w.alloc (.cells #[I64 W, I64 P, .slice A n cap] 24)) w.heap.size (hA.only ho (Nat.le_refl _)) ho.size (by omega) hc
  rw [hln] at knew
  have KNEW := hide knew
  have kchk : ∀ w', Only [] w w' → Calls Try.prog 18 #[.agg #[I64 W, I64 P, .slice A n cap]] w' fun e w'' => e = .returned (I64 0) ∧ Only [] w' w'' := fun w' h => by
    have := chk_ok W P A l cap w' w.heap.size (hA.only h (Nat.le_refl _)) h.size (by omega)
    rw [hln, hc] at this; exact this
  have kfrom : ∀ w', Only [] w w' → Calls Try.prog 17 #[.agg #[I64 W, I64 P, .slice A n cap]] w'
      fun e w'' => ∃ A' c', e = .returned (.agg #[I64 W, I64 P, .slice A' n c']) ∧ n ≤ c' ∧ PartsIn w'' w''.heap.size A' l ∧ Only [] w' w'' := fun w' h =>
    from_ok W P A l n cap w' w.heap.size (hA.only h (Nat.le_refl _)) h.size hln (by omega)
  have krnew : ∀ w' A' c', PartsIn w' w'.heap.size A' l → n ≤ c' → Calls Try.prog 16 #[.agg #[I64 W, I64 P, .slice A' n c']] w' fun e w'' => ∃ rb rp, e = .returned (.tuple #[.pointer (some ⟨rb, 0, none⟩), I64 0]) ∧
      RIs w'' w'.heap.size rb rp (Mtr.new ⟨W.toNat, P.toNat, l⟩) ∧ Only [] w' w'' := fun w' A' c' h1 h2 => by
    have := rnew_yes W P A' l c' w' w'.heap.size h1 (Nat.le_refl _) (by omega) hc
    rw [hln] at this; exact this
  have krchk : ∀ w' A' c', PartsIn w' w'.heap.size A' l → Calls Try.prog 19 #[.agg #[I64 W, I64 P, .slice A' n c']] w' fun e w'' => e = .returned (I64 0) ∧ Only [] w' w'' := fun w' A' c' h1 => by
    have := rchk_ok W P A' l c' w' w'.heap.size h1 (Nat.le_refl _) (by omega)
    rw [hln, hc] at this; exact this
  have KCHK := hide kchk
  have KFROM := hide kfrom
  have KRNEW := hide krnew
  have KRCHK := hide krchk
  have HOK := hide (chk_zero hc).1
  have HA2 := hide hA2
  have HO := hide ho
  have HB := hide hbx
  have e0 := hbx.cell (i := 0) rfl
  have e1 := hbx.cell (i := 1) rfl
  have e2 := hbx.cell (i := 2) rfl
  clear knew kchk kfrom krnew krchk hA hA2 ho hbx hc hln
  go_enter Try.func6, Try.ntmps6
  go_wp2_with fail
  refine KNEW.out.mono ?_
  rintro e w1 ⟨b, pb, rfl, hm1, hbb, _, ho1⟩
  have HM1 := hide hm1
  have HO1 := hide (HO.out.trans ho1)
  have hb1 := ho1.blk HB.out (by simp)
  have f0 := hb1.cell (i := 0) rfl
  have f1 := hb1.cell (i := 1) rfl
  have f2 := hb1.cell (i := 2) rfl
  have HB1 := hide hb1
  have hbb' : w.heap.size < b := by simp at hbb; omega
  clear hm1 ho1 hb1 hbb e0 e1 e2
  go_wp2_with fail
  refine (KFROM.out _ HO1.out).mono ?_
  rintro e w2 ⟨A', c', rfl, hc', hp2, ho2⟩
  have HO2 := hide (HO1.out.trans ho2)
  have HM2 := hide (HM1.out.only ho2 (by simp) (by simp))
  have HB2 := hide (ho2.blk HB1.out (by simp))
  have kr := hide (KRNEW.out w2 A' c' hp2 hc')
  have hs2 := HO2.out.size
  clear hp2 ho2 f0 f1 f2
  go_wp2_with fail
  refine kr.out.mono ?_
  rintro e w3 ⟨rb, rp, rfl, hr3, ho3⟩
  have HO3 := hide (HO2.out.trans ho3)
  have HB3 := hide (ho3.blk HB2.out (by simp))
  have HBoth := hide (show Both w3 w.heap.size b pb rb rp (Mtr.new ⟨W.toNat, P.toNat, l⟩) from ⟨HM2.out.only ho3 (by simp) (by simp), hr3.mono hs2, Mtr.Inv.new HOK.out, by have := HO3.out.size; omega⟩)
  have e0 := HB3.out.cell (i := 0) rfl
  have e1 := HB3.out.cell (i := 1) rfl
  have e2 := HB3.out.cell (i := 2) rfl
  clear hr3 ho3 kr
  go_wp2
  refine wp_region_text0 18 [5, 7, 8] [] [6] (fun w' => w'.cell? ⟨w.heap.size, 0, none⟩ = some (I64 W) ∧ w'.cell? ⟨w.heap.size, 1, none⟩ = some (I64 P) ∧ w'.cell? ⟨w.heap.size, 2, none⟩ = some (.slice A n cap)) (by kernel_rfl) (by kernel_rfl) ⟨e0, e1, e2⟩ ?_
  repeat (first | ((refine wpText_h rfl rfl ?_; apply Exists.intro; refine ⟨?_, ?_⟩; next => (go_simp; (try (go_bits; go_simp)); (first | done | with_reducible rfl | (rw [if_neg (by omega)]; (try (go_bits; go_simp)); (first | done | with_reducible rfl)) | (rw [if_pos (by omega)]; (try (go_bits; go_simp)); (first | done | with_reducible rfl))))); (try simp only [Act.put, List.setIfInBounds_toArray, List.set_cons_zero, List.set_cons_succ])) | ((refine wpText_p rfl rfl ?_; apply Exists.intro; refine ⟨?_, ?_⟩; next => (intro w'; go_simp; (try (go_bits; go_simp)); (first | done | with_reducible rfl | (rw [if_neg (by omega)]; (try (go_bits; go_simp)); (first | done | with_reducible rfl)) | (rw [if_pos (by omega)]; (try (go_bits; go_simp)); (first | done | with_reducible rfl))))); (try simp only [Act.put, List.setIfInBounds_toArray, List.set_cons_zero, List.set_cons_succ])) | ((refine wpText_y rfl rfl ?_; apply Exists.intro; refine ⟨?_, ?_⟩; next => (intro w' hS; (first | obtain ⟨_, rfl⟩ := hS | skip); go_simp; (try (go_bits; go_simp)); (first | done | with_reducible rfl | (rw [if_neg (by omega)]; (try (go_bits; go_simp)); (first | done | with_reducible rfl)) | (rw [if_pos (by omega)]; (try (go_bits; go_simp)); (first | done | with_reducible rfl))))); (try simp only [Act.put, List.setIfInBounds_toArray, List.set_cons_zero, List.set_cons_succ])) | (refine wpText_skip (by first | exact .inl rfl | exact .inr (.inl rfl) | exact .inr (.inr rfl)) rfl ?_; (try simp only [Act.put, List.setIfInBounds_toArray, List.set_cons_zero, List.set_cons_succ])))
  refine wpText_e rfl rfl (fun K hK => ?_)
  go_wp2_with fail
  refine (KCHK.out _ HO3.out.drew).mono ?_
  rintro e w4 ⟨rfl, ho4⟩
  have HB4 := ho4.blk HB3.out.drew (by simp)
  refine hK _ _ ⟨HB4.cell rfl, HB4.cell rfl, HB4.cell rfl⟩ ?_
  clear hK K
  have HO4 := hide (HO3.out.drew.trans ho4)
  have HT4 := hide ((Only.refl [] w3).drew.trans ho4)
  clear ho4
  repeat (first | ((refine wpText_h rfl rfl ?_; apply Exists.intro; refine ⟨?_, ?_⟩; next => (go_simp; (try (go_bits; go_simp)); (first | done | with_reducible rfl | (rw [if_neg (by omega)]; (try (go_bits; go_simp)); (first | done | with_reducible rfl)) | (rw [if_pos (by omega)]; (try (go_bits; go_simp)); (first | done | with_reducible rfl))))); (try simp only [Act.put, List.setIfInBounds_toArray, List.set_cons_zero, List.set_cons_succ])) | ((refine wpText_p rfl rfl ?_; apply Exists.intro; refine ⟨?_, ?_⟩; next => (intro w'; go_simp; (try (go_bits; go_simp)); (first | done | with_reducible rfl | (rw [if_neg (by omega)]; (try (go_bits; go_simp)); (first | done | with_reducible rfl)) | (rw [if_pos (by omega)]; (try (go_bits; go_simp)); (first | done | with_reducible rfl))))); (try simp only [Act.put, List.setIfInBounds_toArray, List.set_cons_zero, List.set_cons_succ])) | ((refine wpText_y rfl rfl ?_; apply Exists.intro; refine ⟨?_, ?_⟩; next => (intro w' hS; (first | obtain ⟨_, rfl⟩ := hS | skip); go_simp; (try (go_bits; go_simp)); (first | done | with_reducible rfl | (rw [if_neg (by omega)]; (try (go_bits; go_simp)); (first | done | with_reducible rfl)) | (rw [if_pos (by omega)]; (try (go_bits; go_simp)); (first | done | with_reducible rfl))))); (try simp only [Act.put, List.setIfInBounds_toArray, List.set_cons_zero, List.set_cons_succ])) | (refine wpText_skip (by first | exact .inl rfl | exact .inr (.inl rfl) | exact .inr (.inr rfl)) rfl ?_; (try simp only [Act.put, List.setIfInBounds_toArray, List.set_cons_zero, List.set_cons_succ])))
  refine wpText_e rfl rfl (fun K hK => ?_)
  go_wp2_with fail
  refine (KFROM.out _ HO4.out).mono ?_
  rintro e w5 ⟨A5, c5, rfl, hc5, hp5, ho5⟩
  have HB5 := ho5.blk HB4 (by simp)
  refine hK _ _ ⟨HB5.cell rfl, HB5.cell rfl, HB5.cell rfl⟩ ?_
  clear hK K
  have HO5 := hide (HO4.out.trans ho5)
  have HT5 := hide (HT4.out.trans ho5)
  have kc := hide (KRCHK.out w5 A5 c5 hp5)
  clear ho5 hp5
  repeat (first | ((refine wpText_h rfl rfl ?_; apply Exists.intro; refine ⟨?_, ?_⟩; next => (go_simp; (try (go_bits; go_simp)); (first | done | with_reducible rfl | (rw [if_neg (by omega)]; (try (go_bits; go_simp)); (first | done | with_reducible rfl)) | (rw [if_pos (by omega)]; (try (go_bits; go_simp)); (first | done | with_reducible rfl))))); (try simp only [Act.put, List.setIfInBounds_toArray, List.set_cons_zero, List.set_cons_succ])) | ((refine wpText_p rfl rfl ?_; apply Exists.intro; refine ⟨?_, ?_⟩; next => (intro w'; go_simp; (try (go_bits; go_simp)); (first | done | with_reducible rfl | (rw [if_neg (by omega)]; (try (go_bits; go_simp)); (first | done | with_reducible rfl)) | (rw [if_pos (by omega)]; (try (go_bits; go_simp)); (first | done | with_reducible rfl))))); (try simp only [Act.put, List.setIfInBounds_toArray, List.set_cons_zero, List.set_cons_succ])) | ((refine wpText_y rfl rfl ?_; apply Exists.intro; refine ⟨?_, ?_⟩; next => (intro w' hS; (first | obtain ⟨_, rfl⟩ := hS | skip); go_simp; (try (go_bits; go_simp)); (first | done | with_reducible rfl | (rw [if_neg (by omega)]; (try (go_bits; go_simp)); (first | done | with_reducible rfl)) | (rw [if_pos (by omega)]; (try (go_bits; go_simp)); (first | done | with_reducible rfl))))); (try simp only [Act.put, List.setIfInBounds_toArray, List.set_cons_zero, List.set_cons_succ])) | (refine wpText_skip (by first | exact .inl rfl | exact .inr (.inl rfl) | exact .inr (.inr rfl)) rfl ?_; (try simp only [Act.put, List.setIfInBounds_toArray, List.set_cons_zero, List.set_cons_succ])))
  refine wpText_e rfl rfl (fun K hK => ?_)
  go_wp2_with fail
  refine kc.out.mono ?_
  rintro e w6 ⟨rfl, ho6⟩
  have HB6 := ho6.blk HB5 (by simp)
  refine hK _ _ ⟨HB6.cell rfl, HB6.cell rfl, HB6.cell rfl⟩ ?_
  clear hK K
  have HO6 := hide (HO5.out.trans ho6)
  have HT6 := hide (HT5.out.trans ho6)
  clear ho6
  repeat (first | ((refine wpText_h rfl rfl ?_; apply Exists.intro; refine ⟨?_, ?_⟩; next => (go_simp; (try (go_bits; go_simp)); (first | done | with_reducible rfl | (rw [if_neg (by omega)]; (try (go_bits; go_simp)); (first | done | with_reducible rfl)) | (rw [if_pos (by omega)]; (try (go_bits; go_simp)); (first | done | with_reducible rfl))))); (try simp only [Act.put, List.setIfInBounds_toArray, List.set_cons_zero, List.set_cons_succ])) | ((refine wpText_p rfl rfl ?_; apply Exists.intro; refine ⟨?_, ?_⟩; next => (intro w'; go_simp; (try (go_bits; go_simp)); (first | done | with_reducible rfl | (rw [if_neg (by omega)]; (try (go_bits; go_simp)); (first | done | with_reducible rfl)) | (rw [if_pos (by omega)]; (try (go_bits; go_simp)); (first | done | with_reducible rfl))))); (try simp only [Act.put, List.setIfInBounds_toArray, List.set_cons_zero, List.set_cons_succ])) | ((refine wpText_y rfl rfl ?_; apply Exists.intro; refine ⟨?_, ?_⟩; next => (intro w' hS; (first | obtain ⟨_, rfl⟩ := hS | skip); go_simp; (try (go_bits; go_simp)); (first | done | with_reducible rfl | (rw [if_neg (by omega)]; (try (go_bits; go_simp)); (first | done | with_reducible rfl)) | (rw [if_pos (by omega)]; (try (go_bits; go_simp)); (first | done | with_reducible rfl))))); (try simp only [Act.put, List.setIfInBounds_toArray, List.set_cons_zero, List.set_cons_succ])) | (refine wpText_skip (by first | exact .inl rfl | exact .inr (.inl rfl) | exact .inr (.inr rfl)) rfl ?_; (try simp only [Act.put, List.setIfInBounds_toArray, List.set_cons_zero, List.set_cons_succ])))
  refine wpText_nil ?_
  go_wp2
  have hst := hide (show PlayRel w w.heap.size b pb rb rp 0 (I64 0) w6 from ⟨0, _, rfl, by omega, by omega, HBoth.out.only HT6.out, by simp [Mtr.new], HO6.out.below (by simp) (Nat.le_refl _)⟩)
  clear HB4 HB5 HB6 e0 e1 e2 HB1 HB2 HB3 HO1 HO2 HO3 HO4 HO5 HO6 HT4 HT5 HT6 HM1 HM2 HBoth KNEW KCHK KFROM KRNEW KRCHK kc
  go_loopw [9, 10] (fun nw i wr => ∃ k : Nat, k ≤ al.length ∧ i = .int .i64 k ∧ PlayRel w w.heap.size b pb rb rp k nw wr) (fun _ i _ => al.length - (intOf i).toNat)
  case atStart => exact ⟨0, Nat.zero_le _, rfl, hst.out⟩
  case round =>
    obtain ⟨k, hk, rfl, t, m, rfl, ht0, ht1, hB, hml, hbel⟩ := hrel
    clear hst
    rcases Nat.lt_or_ge k al.length with hlt | hge
    · obtain ⟨x, hx⟩ : ∃ x, al[k]? = some x := ⟨_, List.getElem?_eq_getElem hlt⟩
      obtain ⟨xd0, xd1, xg0, xg1⟩ := hok x (List.mem_of_getElem? hx)
      obtain ⟨ab, ao, rfl, hab, a0, a1, a2, a3, a4, a5⟩ := (HA2.out.below hbel) k x hx
      have cellA : Hid (∀ w', Below w.heap.size w w' → w'.cell? ⟨ab, ao + k * 6 + 3, none⟩ = some (I64 x.a)) := hide fun w' h => by
        obtain ⟨b', o', h1, _, _, _, _, h2, _⟩ := (HA2.out.below h) k x hx
        injection h1 with h1
        injection h1 with h3 h4 _
        subst h3 h4
        exact h2
      clear hx
      have HBb := hide hbel
      have hs := fun at_ => hide (step_ok w.heap.size b pb rb rp m x.d x.gap x.raw x.a x.b at_ x.c wr hB (by omega) xd0 xd1)
      clear hbel hB
      by_cases h250 : x.d < 250
      all_goals
        go_wp2_with fail
        refine (hs _).out.mono ?_
        rintro e w1 ⟨rfl, ⟨m1, hB1, hl1⟩, hbel1⟩
        have HBE1 := hide (HBb.out.trans hbel1)
        have c3 := cellA.out _ HBE1.out
        have HB1 := hide hB1
        have k1 := hide (budget_ok b pb m1 x.a w1 hB1.mtr hB1.inv)
        clear hB1 hbel1 a0 a1 a2 a3 a4 a5
        go_wp2_with fail
        refine k1.out.mono ?_
        rintro e w2 ⟨rfl, n2, rfl⟩
        have HB2 := hide (HB1.out.only ((Only.refl _ _).drewN n2))
        have k2 := hide (rbudget_ok w.heap.size rb rp m1 x.a _ HB2.out.ref HB2.out.inv)
        go_wp2_with fail
        refine k2.out.mono ?_
        rintro e w3 ⟨rfl, hr3, ho3⟩
        have HB3 := hide (HB2.out.only ho3)
        have HBE3 := hide (HBE1.out.trans ((((Only.refl [] w1).drewN n2).trans ho3).below (by simp) HB1.out.le.2))
        clear hr3 ho3 c3
        go_wp2
        go_roundw
        case rel => exact ⟨k + 1, by omega, by go_num, _, m1, rfl, by omega, by omega, HB3.out, by omega, HBE3.out⟩
        case measure => simp [intOf]; omega
    · obtain rfl : k = al.length := by omega
      go_wp2_with fail
      refine (awake_ok _).mono ?_
      rintro e w9 ⟨rfl, ho9⟩
      go_wp2
      go_ret
      exact ⟨rfl, hbel.trans (ho9.below (by simp) hB.le.2)⟩

def NilRel (w : World) (k : Nat) (nw : Value) (wr : World) : Prop := ∃ t : Int, nw = I64 t ∧ 0 ≤ t ∧ t ≤ 255 * k ∧ Only [] w wr

set_option maxRecDepth 100000 in
set_option maxHeartbeats 8000000 in
theorem plays_bad (W P : Int) (A : Option Addr) (l : List (Int × Int)) (n cap : Nat) (A2 : Option Addr) (al : List AV) (cap2 : Nat) (w : World) (hA : PartsIn w w.heap.size A l) (hln : l.length = n) (hn20 : n ≤ 20) (hc : chk W P l ≠ 0)
    (hl : al.length ≤ 60) (hok : ∀ x ∈ al, x.ok) (hA2 : ActsAt w w.heap.size A2 al) :
    Calls Try.prog 6 #[.agg #[I64 W, I64 P, .slice A n cap], .slice A2 al.length cap2] w fun e w' => e = .returned (.bool true) ∧ Below w.heap.size w w' := by
  have ho := (Only.refl [] w).alloc (.cells #[I64 W, I64 P, .slice A n cap] 24)
  have hbx := Blk.new w 24 [I64 W, I64 P, .slice A n cap]
  have knew := new_no W P A l cap (w.alloc (.cells #[I64 W, I64 P, .slice A n cap] 24)) w.heap.size (hA.only ho (Nat.le_refl _)) ho.size (by omega) hc
  rw [hln] at knew
  have kchk : ∀ w', Only [] w w' → Calls Try.prog 18 #[.agg #[I64 W, I64 P, .slice A n cap]] w' fun e w'' => e = .returned (I64 (chk W P l)) ∧ Only [] w' w'' := fun w' h => by
    have := chk_ok W P A l cap w' w.heap.size (hA.only h (Nat.le_refl _)) h.size (by omega)
    rw [hln] at this; exact this
  have kfrom : ∀ w', Only [] w w' → Calls Try.prog 17 #[.agg #[I64 W, I64 P, .slice A n cap]] w'
      fun e w'' => ∃ A' c', e = .returned (.agg #[I64 W, I64 P, .slice A' n c']) ∧ n ≤ c' ∧ PartsIn w'' w''.heap.size A' l ∧ Only [] w' w'' := fun w' h =>
    from_ok W P A l n cap w' w.heap.size (hA.only h (Nat.le_refl _)) h.size hln (by omega)
  have krnew : ∀ w' A' c', PartsIn w' w'.heap.size A' l → Calls Try.prog 16 #[.agg #[I64 W, I64 P, .slice A' n c']] w' fun e w'' => e = .returned (.tuple #[.pointer none, I64 (chk W P l)]) ∧ Only [] w' w'' := fun w' A' c' h1 => by
    have := rnew_no W P A' l c' w' w'.heap.size h1 (Nat.le_refl _) (by omega) hc
    rw [hln] at this; exact this
  have krchk : ∀ w' A' c', PartsIn w' w'.heap.size A' l → Calls Try.prog 19 #[.agg #[I64 W, I64 P, .slice A' n c']] w' fun e w'' => e = .returned (I64 (chk W P l)) ∧ Only [] w' w'' := fun w' A' c' h1 => by
    have := rchk_ok W P A' l c' w' w'.heap.size h1 (Nat.le_refl _) (by omega)
    rw [hln] at this; exact this
  generalize chk W P l = ec at *
  have KNEW := hide knew
  have KCHK := hide kchk
  have KFROM := hide kfrom
  have KRNEW := hide krnew
  have KRCHK := hide krchk
  have HA2 := hide hA2
  have HO := hide ho
  have HB := hide hbx
  have e0 := hbx.cell (i := 0) rfl
  have e1 := hbx.cell (i := 1) rfl
  have e2 := hbx.cell (i := 2) rfl
  clear knew kchk kfrom krnew krchk hA hA2 ho hbx hc hln
  go_enter Try.func6, Try.ntmps6
  go_wp2_with fail
  refine KNEW.out.mono ?_
  rintro e w1 ⟨rfl, ho1⟩
  have HO1 := hide (HO.out.trans ho1)
  have hb1 := ho1.blk HB.out (by simp)
  have f0 := hb1.cell (i := 0) rfl
  have f1 := hb1.cell (i := 1) rfl
  have f2 := hb1.cell (i := 2) rfl
  have HB1 := hide hb1
  clear ho1 hb1 e0 e1 e2
  go_wp2_with fail
  refine (KFROM.out _ HO1.out).mono ?_
  rintro e w2 ⟨A', c', rfl, hc', hp2, ho2⟩
  have HO2 := hide (HO1.out.trans ho2)
  have HB2 := hide (ho2.blk HB1.out (by simp))
  have kr := hide (KRNEW.out w2 A' c' hp2)
  clear hp2 ho2 f0 f1 f2
  go_wp2_with fail
  refine kr.out.mono ?_
  rintro e w3 ⟨rfl, ho3⟩
  have HO3 := hide (HO2.out.trans ho3)
  have HB3 := hide (ho3.blk HB2.out (by simp))
  have e0 := HB3.out.cell (i := 0) rfl
  have e1 := HB3.out.cell (i := 1) rfl
  have e2 := HB3.out.cell (i := 2) rfl
  clear ho3 kr
  go_wp2
  refine wp_region_text0 18 [5, 7, 8] [] [6] (fun w' => w'.cell? ⟨w.heap.size, 0, none⟩ = some (I64 W) ∧ w'.cell? ⟨w.heap.size, 1, none⟩ = some (I64 P) ∧ w'.cell? ⟨w.heap.size, 2, none⟩ = some (.slice A n cap)) (by kernel_rfl) (by kernel_rfl) ⟨e0, e1, e2⟩ ?_
  repeat (first | ((refine wpText_h rfl rfl ?_; apply Exists.intro; refine ⟨?_, ?_⟩; next => (go_simp; (try (go_bits; go_simp)); (first | done | with_reducible rfl | (rw [if_neg (by omega)]; (try (go_bits; go_simp)); (first | done | with_reducible rfl)) | (rw [if_pos (by omega)]; (try (go_bits; go_simp)); (first | done | with_reducible rfl))))); (try simp only [Act.put, List.setIfInBounds_toArray, List.set_cons_zero, List.set_cons_succ])) | ((refine wpText_p rfl rfl ?_; apply Exists.intro; refine ⟨?_, ?_⟩; next => (intro w'; go_simp; (try (go_bits; go_simp)); (first | done | with_reducible rfl | (rw [if_neg (by omega)]; (try (go_bits; go_simp)); (first | done | with_reducible rfl)) | (rw [if_pos (by omega)]; (try (go_bits; go_simp)); (first | done | with_reducible rfl))))); (try simp only [Act.put, List.setIfInBounds_toArray, List.set_cons_zero, List.set_cons_succ])) | ((refine wpText_y rfl rfl ?_; apply Exists.intro; refine ⟨?_, ?_⟩; next => (intro w' hS; (first | obtain ⟨_, rfl⟩ := hS | skip); go_simp; (try (go_bits; go_simp)); (first | done | with_reducible rfl | (rw [if_neg (by omega)]; (try (go_bits; go_simp)); (first | done | with_reducible rfl)) | (rw [if_pos (by omega)]; (try (go_bits; go_simp)); (first | done | with_reducible rfl))))); (try simp only [Act.put, List.setIfInBounds_toArray, List.set_cons_zero, List.set_cons_succ])) | (refine wpText_skip (by first | exact .inl rfl | exact .inr (.inl rfl) | exact .inr (.inr rfl)) rfl ?_; (try simp only [Act.put, List.setIfInBounds_toArray, List.set_cons_zero, List.set_cons_succ])))
  refine wpText_e rfl rfl (fun K hK => ?_)
  go_wp2_with fail
  refine (KCHK.out _ HO3.out.drew).mono ?_
  rintro e w4 ⟨rfl, ho4⟩
  have HB4 := ho4.blk HB3.out.drew (by simp)
  refine hK _ _ ⟨HB4.cell rfl, HB4.cell rfl, HB4.cell rfl⟩ ?_
  clear hK K
  have HO4 := hide (HO3.out.drew.trans ho4)
  clear ho4
  repeat (first | ((refine wpText_h rfl rfl ?_; apply Exists.intro; refine ⟨?_, ?_⟩; next => (go_simp; (try (go_bits; go_simp)); (first | done | with_reducible rfl | (rw [if_neg (by omega)]; (try (go_bits; go_simp)); (first | done | with_reducible rfl)) | (rw [if_pos (by omega)]; (try (go_bits; go_simp)); (first | done | with_reducible rfl))))); (try simp only [Act.put, List.setIfInBounds_toArray, List.set_cons_zero, List.set_cons_succ])) | ((refine wpText_p rfl rfl ?_; apply Exists.intro; refine ⟨?_, ?_⟩; next => (intro w'; go_simp; (try (go_bits; go_simp)); (first | done | with_reducible rfl | (rw [if_neg (by omega)]; (try (go_bits; go_simp)); (first | done | with_reducible rfl)) | (rw [if_pos (by omega)]; (try (go_bits; go_simp)); (first | done | with_reducible rfl))))); (try simp only [Act.put, List.setIfInBounds_toArray, List.set_cons_zero, List.set_cons_succ])) | ((refine wpText_y rfl rfl ?_; apply Exists.intro; refine ⟨?_, ?_⟩; next => (intro w' hS; (first | obtain ⟨_, rfl⟩ := hS | skip); go_simp; (try (go_bits; go_simp)); (first | done | with_reducible rfl | (rw [if_neg (by omega)]; (try (go_bits; go_simp)); (first | done | with_reducible rfl)) | (rw [if_pos (by omega)]; (try (go_bits; go_simp)); (first | done | with_reducible rfl))))); (try simp only [Act.put, List.setIfInBounds_toArray, List.set_cons_zero, List.set_cons_succ])) | (refine wpText_skip (by first | exact .inl rfl | exact .inr (.inl rfl) | exact .inr (.inr rfl)) rfl ?_; (try simp only [Act.put, List.setIfInBounds_toArray, List.set_cons_zero, List.set_cons_succ])))
  refine wpText_e rfl rfl (fun K hK => ?_)
  go_wp2_with fail
  refine (KFROM.out _ HO4.out).mono ?_
  rintro e w5 ⟨A5, c5, rfl, hc5, hp5, ho5⟩
  have HB5 := ho5.blk HB4 (by simp)
  refine hK _ _ ⟨HB5.cell rfl, HB5.cell rfl, HB5.cell rfl⟩ ?_
  clear hK K
  have HO5 := hide (HO4.out.trans ho5)
  have kc := hide (KRCHK.out w5 A5 c5 hp5)
  clear ho5 hp5
  repeat (first | ((refine wpText_h rfl rfl ?_; apply Exists.intro; refine ⟨?_, ?_⟩; next => (go_simp; (try (go_bits; go_simp)); (first | done | with_reducible rfl | (rw [if_neg (by omega)]; (try (go_bits; go_simp)); (first | done | with_reducible rfl)) | (rw [if_pos (by omega)]; (try (go_bits; go_simp)); (first | done | with_reducible rfl))))); (try simp only [Act.put, List.setIfInBounds_toArray, List.set_cons_zero, List.set_cons_succ])) | ((refine wpText_p rfl rfl ?_; apply Exists.intro; refine ⟨?_, ?_⟩; next => (intro w'; go_simp; (try (go_bits; go_simp)); (first | done | with_reducible rfl | (rw [if_neg (by omega)]; (try (go_bits; go_simp)); (first | done | with_reducible rfl)) | (rw [if_pos (by omega)]; (try (go_bits; go_simp)); (first | done | with_reducible rfl))))); (try simp only [Act.put, List.setIfInBounds_toArray, List.set_cons_zero, List.set_cons_succ])) | ((refine wpText_y rfl rfl ?_; apply Exists.intro; refine ⟨?_, ?_⟩; next => (intro w' hS; (first | obtain ⟨_, rfl⟩ := hS | skip); go_simp; (try (go_bits; go_simp)); (first | done | with_reducible rfl | (rw [if_neg (by omega)]; (try (go_bits; go_simp)); (first | done | with_reducible rfl)) | (rw [if_pos (by omega)]; (try (go_bits; go_simp)); (first | done | with_reducible rfl))))); (try simp only [Act.put, List.setIfInBounds_toArray, List.set_cons_zero, List.set_cons_succ])) | (refine wpText_skip (by first | exact .inl rfl | exact .inr (.inl rfl) | exact .inr (.inr rfl)) rfl ?_; (try simp only [Act.put, List.setIfInBounds_toArray, List.set_cons_zero, List.set_cons_succ])))
  refine wpText_e rfl rfl (fun K hK => ?_)
  go_wp2_with fail
  refine kc.out.mono ?_
  rintro e w6 ⟨rfl, ho6⟩
  have HB6 := ho6.blk HB5 (by simp)
  refine hK _ _ ⟨HB6.cell rfl, HB6.cell rfl, HB6.cell rfl⟩ ?_
  clear hK K
  have HO6 := hide (HO5.out.trans ho6)
  clear ho6
  repeat (first | ((refine wpText_h rfl rfl ?_; apply Exists.intro; refine ⟨?_, ?_⟩; next => (go_simp; (try (go_bits; go_simp)); (first | done | with_reducible rfl | (rw [if_neg (by omega)]; (try (go_bits; go_simp)); (first | done | with_reducible rfl)) | (rw [if_pos (by omega)]; (try (go_bits; go_simp)); (first | done | with_reducible rfl))))); (try simp only [Act.put, List.setIfInBounds_toArray, List.set_cons_zero, List.set_cons_succ])) | ((refine wpText_p rfl rfl ?_; apply Exists.intro; refine ⟨?_, ?_⟩; next => (intro w'; go_simp; (try (go_bits; go_simp)); (first | done | with_reducible rfl | (rw [if_neg (by omega)]; (try (go_bits; go_simp)); (first | done | with_reducible rfl)) | (rw [if_pos (by omega)]; (try (go_bits; go_simp)); (first | done | with_reducible rfl))))); (try simp only [Act.put, List.setIfInBounds_toArray, List.set_cons_zero, List.set_cons_succ])) | ((refine wpText_y rfl rfl ?_; apply Exists.intro; refine ⟨?_, ?_⟩; next => (intro w' hS; (first | obtain ⟨_, rfl⟩ := hS | skip); go_simp; (try (go_bits; go_simp)); (first | done | with_reducible rfl | (rw [if_neg (by omega)]; (try (go_bits; go_simp)); (first | done | with_reducible rfl)) | (rw [if_pos (by omega)]; (try (go_bits; go_simp)); (first | done | with_reducible rfl))))); (try simp only [Act.put, List.setIfInBounds_toArray, List.set_cons_zero, List.set_cons_succ])) | (refine wpText_skip (by first | exact .inl rfl | exact .inr (.inl rfl) | exact .inr (.inr rfl)) rfl ?_; (try simp only [Act.put, List.setIfInBounds_toArray, List.set_cons_zero, List.set_cons_succ])))
  refine wpText_nil ?_
  go_wp2
  have hst := hide (show NilRel w 0 (I64 0) w6 from ⟨0, rfl, by omega, by omega, HO6.out⟩)
  clear HB4 HB5 HB6 e0 e1 e2 HB1 HB2 HB3 HO1 HO2 HO3 HO4 HO5 HO6 KNEW KCHK KFROM KRNEW KRCHK kc
  go_loopw [9, 10] (fun nw i wr => ∃ k : Nat, k ≤ al.length ∧ i = .int .i64 k ∧ NilRel w k nw wr) (fun _ i _ => al.length - (intOf i).toNat)
  case atStart => exact ⟨0, Nat.zero_le _, rfl, hst.out⟩
  case round =>
    obtain ⟨k, hk, rfl, t, rfl, ht0, ht1, hor⟩ := hrel
    clear hst
    rcases Nat.lt_or_ge k al.length with hlt | hge
    · obtain ⟨x, hx⟩ : ∃ x, al[k]? = some x := ⟨_, List.getElem?_eq_getElem hlt⟩
      obtain ⟨xd0, xd1, xg0, xg1⟩ := hok x (List.mem_of_getElem? hx)
      have hbel := hor.below (B := w.heap.size) (by simp) (Nat.le_refl _)
      obtain ⟨ab, ao, rfl, hab, a0, a1, a2, a3, a4, a5⟩ := (HA2.out.below hbel) k x hx
      have cellA : Hid (∀ w', Below w.heap.size w w' → w'.cell? ⟨ab, ao + k * 6 + 3, none⟩ = some (I64 x.a)) := hide fun w' h => by
        obtain ⟨b', o', h1, _, _, _, _, h2, _⟩ := (HA2.out.below h) k x hx
        injection h1 with h1
        injection h1 with h3 h4 _
        subst h3 h4
        exact h2
      have HOR := hide hor
      have hs := fun at_ => hide (step_nil x.d x.gap x.raw x.a x.b at_ x.c wr xd0 xd1)
      clear hx hbel hor
      by_cases h250 : x.d < 250
      all_goals
        go_wp2_with fail
        refine (hs _).out.mono ?_
        rintro e w1 ⟨rfl, ho1⟩
        have HO1 := hide (HOR.out.trans ho1)
        have c3 := cellA.out _ (HO1.out.below (by simp) (Nat.le_refl _))
        clear ho1 a0 a1 a2 a3 a4 a5
        go_wp2_with fail
        refine (budget_nil x.a _).mono ?_
        rintro e w2 ⟨rfl, ho2⟩
        have HO2 := hide (HO1.out.trans ho2)
        have c3' := cellA.out _ (HO2.out.below (by simp) (Nat.le_refl _))
        clear ho2 c3
        go_wp2_with fail
        refine (rbudget_nil x.a _).mono ?_
        rintro e w3 ⟨rfl, ho3⟩
        have HO3 := hide (HO2.out.trans ho3)
        clear ho3 c3'
        go_wp2
        go_roundw
        case rel => exact ⟨k + 1, by omega, by go_num, _, rfl, by omega, by omega, HO3.out⟩
        case measure => simp [intOf]; omega
    · obtain rfl : k = al.length := by omega
      go_wp2_with fail
      refine (awake_ok _).mono ?_
      rintro e w9 ⟨rfl, ho9⟩
      go_wp2
      go_ret
      exact ⟨rfl, (hor.trans ho9).below (by simp) (Nat.le_refl _)⟩

end Go.Proofs.Ytpeaojkbfllakaa
