/- The law SporadicPlays, walked. -/
import Derived.Test.YtdjkgbkckmjfiaaRefK
import Derived.Test.YtdjkgbkckmjfiaaAwake
namespace Go.Proofs.Ytdjkgbkckmjfiaa
open Go.RowKit

structure AV where
  d : Int
  gap : Int
  raw : Int
  nm : Int
structure AV.ok (x : AV) : Prop where
  d0 : 0 ≤ x.d
  d1 : x.d ≤ 255
  g0 : 0 ≤ x.gap
  g1 : x.gap ≤ 255

/-- A slice of acts that lies below block B. -/
def ActsAt (w : World) (B : Nat) (A : Option Addr) (l : List AV) : Prop :=
  ∀ k x, l[k]? = some x → ∃ b o, A = some ⟨b, o, none⟩ ∧ b < B ∧ w.cell? ⟨b, o + k * 4, none⟩ = some (.int .u8 x.d) ∧ w.cell? ⟨b, o + k * 4 + 1, none⟩ = some (.int .u8 x.gap) ∧
    w.cell? ⟨b, o + k * 4 + 2, none⟩ = some (I64 x.raw) ∧ w.cell? ⟨b, o + k * 4 + 3, none⟩ = some (I64 x.nm)
theorem ActsAt.below {w w' : World} {B : Nat} {A : Option Addr} {l : List AV} (h : ActsAt w B A l) (hb : Below B w w') : ActsAt w' B A l := by
  intro k x hx
  obtain ⟨b, o, hA, hl, h0, h1, h2, h3⟩ := h k x hx
  refine ⟨b, o, hA, hl, ?_, ?_, ?_, ?_⟩ <;> (rw [hb.cell (by exact hl)]; assumption)

theorem plays_big (p : Prm) (A : Option Addr) (len cap : Nat) (w : World) (h : p.ok) (hl : 60 < len) (hm : len ≤ maxLen) :
    Calls Try.prog 6 #[.agg #[I64 p.B, I64 p.P, I64 p.N, I64 p.L], .slice A len cap] w fun e w' => e = .returned (.bool true) ∧ Only [] w w' := by
  unfold maxLen at hm
  go_enter Try.func6, Try.ntmps6
  go_wp2_with fail
  refine (new_yes p _ h).mono ?_
  rintro e w1 ⟨b, g, bs, rfl, hs0, hb, hg, hbs, ho⟩
  have hbx := ho.blk (Blk.new w 23 [I64 p.B, I64 p.P, I64 p.N, I64 p.L]) (by simp)
  have e0 := hbx.cell (i := 0) rfl
  have e1 := hbx.cell (i := 1) rfl
  have e2 := hbx.cell (i := 2) rfl
  have e3 := hbx.cell (i := 3) rfl
  go_wp2_with fail
  refine (from_ok p.B p.P p.N p.L _).mono ?_
  rintro e w2 ⟨rfl, ho2⟩
  go_wp2_with fail
  refine (rnew_yes p w2 0 h (by omega)).mono ?_
  rintro e w3 ⟨rb, rfl, hr3, hrb, ho3⟩
  go_wp2_with fail
  refine (awake_ok _).mono ?_
  rintro e w4 ⟨rfl, ho4⟩
  go_wp2
  go_ret
  exact ⟨rfl, ((Only.refl _ _).alloc _).trans (ho.trans (ho2.trans (ho3.trans ho4)))⟩
theorem plays_bad_big (B P N L : Int) (A : Option Addr) (len cap : Nat) (w : World) (h : ¬ okRaw B P N L) (hl : 60 < len) (hm : len ≤ maxLen) :
    Calls Try.prog 6 #[.agg #[I64 B, I64 P, I64 N, I64 L], .slice A len cap] w fun e w' => e = .returned (.bool true) ∧ Only [] w w' := by
  unfold maxLen at hm
  go_enter Try.func6, Try.ntmps6
  go_wp2_with fail
  refine (new_no B P N L _ h).mono ?_
  rintro e w1 ⟨rfl, ho⟩
  have hbx := ho.blk (Blk.new w 23 [I64 B, I64 P, I64 N, I64 L]) (by simp)
  have e0 := hbx.cell (i := 0) rfl
  have e1 := hbx.cell (i := 1) rfl
  have e2 := hbx.cell (i := 2) rfl
  have e3 := hbx.cell (i := 3) rfl
  go_wp2_with fail
  refine (from_ok B P N L _).mono ?_
  rintro e w2 ⟨rfl, ho2⟩
  go_wp2_with fail
  refine (rnew_no B P N L w2 h).mono ?_
  rintro e w3 ⟨rfl, ho3⟩
  go_wp2_with fail
  refine (awake_ok _).mono ?_
  rintro e w4 ⟨rfl, ho4⟩
  go_wp2
  go_ret
  exact ⟨rfl, ((Only.refl _ _).alloc _).trans (ho.trans (ho2.trans (ho3.trans ho4)))⟩

def PlayRel (w : World) (base b g bs rb : Nat) (k : Nat) (nw : Value) (wr : World) : Prop :=
  ∃ (m : Int) (s : Srv), nw = I64 m ∧ 0 ≤ m ∧ m ≤ 255 * k ∧ Both wr base b g bs rb s ∧ Below base w wr

set_option maxRecDepth 100000 in
set_option maxHeartbeats 8000000 in
theorem plays_good (p : Prm) (A : Option Addr) (l : List AV) (cap : Nat) (w : World) (h : p.ok) (hl : l.length ≤ 60) (hok : ∀ x ∈ l, x.ok) (hA : ActsAt w w.heap.size A l) :
    Calls Try.prog 6 #[.agg #[I64 p.B, I64 p.P, I64 p.N, I64 p.L], .slice A l.length cap] w fun e w' => e = .returned (.bool true) ∧ Below w.heap.size w w' := by
  have hraw : okRaw p.B p.P p.N p.L := by obtain ⟨a1, a2, a3, a4, a5, a6, a7, a8⟩ := h; exact ⟨a1, a2, a3, a4, by omega, by omega, a7, a8⟩
  have HA := hide hA
  clear hA
  go_enter Try.func6, Try.ntmps6
  go_wp2_with fail
  refine (new_yes p _ h).mono ?_
  rintro e w1 ⟨b, g, bs, rfl, hs0, hb, hg, hbs, ho⟩
  have hbx := ho.blk (Blk.new w 23 [I64 p.B, I64 p.P, I64 p.N, I64 p.L]) (by simp)
  have e0 := hbx.cell (i := 0) rfl
  have e1 := hbx.cell (i := 1) rfl
  have e2 := hbx.cell (i := 2) rfl
  have e3 := hbx.cell (i := 3) rfl
  go_wp2_with fail
  refine (from_ok p.B p.P p.N p.L _).mono ?_
  rintro e w2 ⟨rfl, ho2⟩
  have hsz2 : w.heap.size ≤ w2.heap.size := by have := ho.size; have := ho2.size; simp at *; omega
  go_wp2_with fail
  refine (rnew_yes p w2 w.heap.size h hsz2).mono ?_
  rintro e w3 ⟨rb, rfl, hr3, hrb, ho3⟩
  have hbx3 := ho3.blk (ho2.blk hbx (by simp)) (by simp)
  have HB : Both w3 w.heap.size b g bs rb (Srv.new p) := ⟨(hs0.only ho2 (by simp) (by simp) (by simp)).only ho3 (by simp) (by simp) (by simp), hr3, Srv.Inv.news h, by have := ho.size; have := ho2.size; have := ho3.size; simp at *; omega⟩
  have HO : Only [] w w3 := ((Only.refl _ _).alloc _).trans (ho.trans (ho2.trans ho3))
  clear hs0 ho ho2 ho3 hr3 hbx e0 e1 e2 e3
  have e0 := hbx3.cell (i := 0) rfl
  have e1 := hbx3.cell (i := 1) rfl
  have e2 := hbx3.cell (i := 2) rfl
  have e3 := hbx3.cell (i := 3) rfl
  have HX := hide hbx3
  clear hbx3
  go_wp2
  refine wp_region_text0 18 [5, 7, 8] [] [6] (fun w' => w'.cell? ⟨w.heap.size, 0, none⟩ = some (I64 p.B) ∧ w'.cell? ⟨w.heap.size, 1, none⟩ = some (I64 p.P) ∧ w'.cell? ⟨w.heap.size, 2, none⟩ = some (I64 p.N) ∧ w'.cell? ⟨w.heap.size, 3, none⟩ = some (I64 p.L)) (by kernel_rfl) (by kernel_rfl) ⟨e0, e1, e2, e3⟩ ?_
  repeat (first | ((refine wpText_h rfl rfl ?_; apply Exists.intro; refine ⟨?_, ?_⟩; next => (go_simp; (try (go_bits; go_simp)); (first | done | with_reducible rfl | (rw [if_neg (by omega)]; (try (go_bits; go_simp)); (first | done | with_reducible rfl)) | (rw [if_pos (by omega)]; (try (go_bits; go_simp)); (first | done | with_reducible rfl))))); (try simp only [Act.put, List.setIfInBounds_toArray, List.set_cons_zero, List.set_cons_succ])) | ((refine wpText_p rfl rfl ?_; apply Exists.intro; refine ⟨?_, ?_⟩; next => (intro w'; go_simp; (try (go_bits; go_simp)); (first | done | with_reducible rfl | (rw [if_neg (by omega)]; (try (go_bits; go_simp)); (first | done | with_reducible rfl)) | (rw [if_pos (by omega)]; (try (go_bits; go_simp)); (first | done | with_reducible rfl))))); (try simp only [Act.put, List.setIfInBounds_toArray, List.set_cons_zero, List.set_cons_succ])) | ((refine wpText_y rfl rfl ?_; apply Exists.intro; refine ⟨?_, ?_⟩; next => (intro w' hS; (first | obtain ⟨_, rfl⟩ := hS | skip); go_simp; (try (go_bits; go_simp)); (first | done | with_reducible rfl | (rw [if_neg (by omega)]; (try (go_bits; go_simp)); (first | done | with_reducible rfl)) | (rw [if_pos (by omega)]; (try (go_bits; go_simp)); (first | done | with_reducible rfl))))); (try simp only [Act.put, List.setIfInBounds_toArray, List.set_cons_zero, List.set_cons_succ])) | (refine wpText_skip (by first | exact .inl rfl | exact .inr (.inl rfl) | exact .inr (.inr rfl)) rfl ?_; (try simp only [Act.put, List.setIfInBounds_toArray, List.set_cons_zero, List.set_cons_succ])))
  refine wpText_e rfl rfl (fun K hK => ?_)
  go_wp2_with fail
  refine (check_yes p.B p.P p.N p.L _ hraw).mono ?_
  rintro e w4 ⟨rfl, ho4⟩
  have HX4 := ho4.blk HX.out.drew (by simp)
  refine hK _ _ ⟨HX4.cell rfl, HX4.cell rfl, HX4.cell rfl, HX4.cell rfl⟩ ?_
  clear hK K
  repeat (first | ((refine wpText_h rfl rfl ?_; apply Exists.intro; refine ⟨?_, ?_⟩; next => (go_simp; (try (go_bits; go_simp)); (first | done | with_reducible rfl | (rw [if_neg (by omega)]; (try (go_bits; go_simp)); (first | done | with_reducible rfl)) | (rw [if_pos (by omega)]; (try (go_bits; go_simp)); (first | done | with_reducible rfl))))); (try simp only [Act.put, List.setIfInBounds_toArray, List.set_cons_zero, List.set_cons_succ])) | ((refine wpText_p rfl rfl ?_; apply Exists.intro; refine ⟨?_, ?_⟩; next => (intro w'; go_simp; (try (go_bits; go_simp)); (first | done | with_reducible rfl | (rw [if_neg (by omega)]; (try (go_bits; go_simp)); (first | done | with_reducible rfl)) | (rw [if_pos (by omega)]; (try (go_bits; go_simp)); (first | done | with_reducible rfl))))); (try simp only [Act.put, List.setIfInBounds_toArray, List.set_cons_zero, List.set_cons_succ])) | ((refine wpText_y rfl rfl ?_; apply Exists.intro; refine ⟨?_, ?_⟩; next => (intro w' hS; (first | obtain ⟨_, rfl⟩ := hS | skip); go_simp; (try (go_bits; go_simp)); (first | done | with_reducible rfl | (rw [if_neg (by omega)]; (try (go_bits; go_simp)); (first | done | with_reducible rfl)) | (rw [if_pos (by omega)]; (try (go_bits; go_simp)); (first | done | with_reducible rfl))))); (try simp only [Act.put, List.setIfInBounds_toArray, List.set_cons_zero, List.set_cons_succ])) | (refine wpText_skip (by first | exact .inl rfl | exact .inr (.inl rfl) | exact .inr (.inr rfl)) rfl ?_; (try simp only [Act.put, List.setIfInBounds_toArray, List.set_cons_zero, List.set_cons_succ])))
  refine wpText_e rfl rfl (fun K hK => ?_)
  go_wp2_with fail
  refine (from_ok p.B p.P p.N p.L _).mono ?_
  rintro e w5 ⟨rfl, ho5⟩
  have HX5 := ho5.blk HX4 (by simp)
  refine hK _ _ ⟨HX5.cell rfl, HX5.cell rfl, HX5.cell rfl, HX5.cell rfl⟩ ?_
  clear hK K
  repeat (first | ((refine wpText_h rfl rfl ?_; apply Exists.intro; refine ⟨?_, ?_⟩; next => (go_simp; (try (go_bits; go_simp)); (first | done | with_reducible rfl | (rw [if_neg (by omega)]; (try (go_bits; go_simp)); (first | done | with_reducible rfl)) | (rw [if_pos (by omega)]; (try (go_bits; go_simp)); (first | done | with_reducible rfl))))); (try simp only [Act.put, List.setIfInBounds_toArray, List.set_cons_zero, List.set_cons_succ])) | ((refine wpText_p rfl rfl ?_; apply Exists.intro; refine ⟨?_, ?_⟩; next => (intro w'; go_simp; (try (go_bits; go_simp)); (first | done | with_reducible rfl | (rw [if_neg (by omega)]; (try (go_bits; go_simp)); (first | done | with_reducible rfl)) | (rw [if_pos (by omega)]; (try (go_bits; go_simp)); (first | done | with_reducible rfl))))); (try simp only [Act.put, List.setIfInBounds_toArray, List.set_cons_zero, List.set_cons_succ])) | ((refine wpText_y rfl rfl ?_; apply Exists.intro; refine ⟨?_, ?_⟩; next => (intro w' hS; (first | obtain ⟨_, rfl⟩ := hS | skip); go_simp; (try (go_bits; go_simp)); (first | done | with_reducible rfl | (rw [if_neg (by omega)]; (try (go_bits; go_simp)); (first | done | with_reducible rfl)) | (rw [if_pos (by omega)]; (try (go_bits; go_simp)); (first | done | with_reducible rfl))))); (try simp only [Act.put, List.setIfInBounds_toArray, List.set_cons_zero, List.set_cons_succ])) | (refine wpText_skip (by first | exact .inl rfl | exact .inr (.inl rfl) | exact .inr (.inr rfl)) rfl ?_; (try simp only [Act.put, List.setIfInBounds_toArray, List.set_cons_zero, List.set_cons_succ])))
  refine wpText_e rfl rfl (fun K hK => ?_)
  go_wp2_with fail
  refine (rcheck_yes p.B p.P p.N p.L _ hraw).mono ?_
  rintro e w6 ⟨rfl, ho6⟩
  have HX6 := ho6.blk HX5 (by simp)
  refine hK _ _ ⟨HX6.cell rfl, HX6.cell rfl, HX6.cell rfl, HX6.cell rfl⟩ ?_
  clear hK K
  repeat (first | ((refine wpText_h rfl rfl ?_; apply Exists.intro; refine ⟨?_, ?_⟩; next => (go_simp; (try (go_bits; go_simp)); (first | done | with_reducible rfl | (rw [if_neg (by omega)]; (try (go_bits; go_simp)); (first | done | with_reducible rfl)) | (rw [if_pos (by omega)]; (try (go_bits; go_simp)); (first | done | with_reducible rfl))))); (try simp only [Act.put, List.setIfInBounds_toArray, List.set_cons_zero, List.set_cons_succ])) | ((refine wpText_p rfl rfl ?_; apply Exists.intro; refine ⟨?_, ?_⟩; next => (intro w'; go_simp; (try (go_bits; go_simp)); (first | done | with_reducible rfl | (rw [if_neg (by omega)]; (try (go_bits; go_simp)); (first | done | with_reducible rfl)) | (rw [if_pos (by omega)]; (try (go_bits; go_simp)); (first | done | with_reducible rfl))))); (try simp only [Act.put, List.setIfInBounds_toArray, List.set_cons_zero, List.set_cons_succ])) | ((refine wpText_y rfl rfl ?_; apply Exists.intro; refine ⟨?_, ?_⟩; next => (intro w' hS; (first | obtain ⟨_, rfl⟩ := hS | skip); go_simp; (try (go_bits; go_simp)); (first | done | with_reducible rfl | (rw [if_neg (by omega)]; (try (go_bits; go_simp)); (first | done | with_reducible rfl)) | (rw [if_pos (by omega)]; (try (go_bits; go_simp)); (first | done | with_reducible rfl))))); (try simp only [Act.put, List.setIfInBounds_toArray, List.set_cons_zero, List.set_cons_succ])) | (refine wpText_skip (by first | exact .inl rfl | exact .inr (.inl rfl) | exact .inr (.inr rfl)) rfl ?_; (try simp only [Act.put, List.setIfInBounds_toArray, List.set_cons_zero, List.set_cons_succ])))
  refine wpText_nil ?_
  go_wp2
  have HO6 : Only [] w3 w6 := ((((Only.refl [] w3).drew).trans ho4).trans ho5).trans ho6
  have hst := hide (show PlayRel w w.heap.size b g bs rb 0 (I64 0) w6 from ⟨0, _, rfl, by omega, by omega, HB.only HO6, (HO.trans HO6).below (by simp) (Nat.le_refl _)⟩)
  clear HX HX4 HX5 HX6 ho4 ho5 ho6 HO HO6 HB e0 e1 e2 e3 hb hg hbs hrb hsz2 hraw h
  go_loopw [9, 10] (fun nw i wr => ∃ k : Nat, k ≤ l.length ∧ i = .int .i64 k ∧ PlayRel w w.heap.size b g bs rb k nw wr) (fun _ i _ => l.length - (intOf i).toNat)
  case atStart => exact ⟨0, Nat.zero_le _, rfl, hst.out⟩
  case round =>
    obtain ⟨k, hk, rfl, m, s, rfl, hm0, hm1, hB, hbel⟩ := hrel
    clear hst
    rcases Nat.lt_or_ge k l.length with hlt | hge
    · obtain ⟨x, hx⟩ : ∃ x, l[k]? = some x := ⟨_, List.getElem?_eq_getElem hlt⟩
      obtain ⟨xd0, xd1, xg0, xg1⟩ := hok x (List.mem_of_getElem? hx)
      obtain ⟨ab, ao, rfl, hab, a0, a1, a2, a3⟩ := (HA.out.below hbel) k x hx
      clear hx
      have HBb := hide hbel
      have hs := fun at_ => hide (step_ok w.heap.size b g bs rb s x.d x.gap x.raw x.nm at_ wr hB xd0 xd1)
      clear hbel
      have next : ∀ (nw : Int) (w1 : World), 0 ≤ nw → nw ≤ 255 * (k + 1 : Nat) → (∃ s', Both w1 w.heap.size b g bs rb s') → Below w.heap.size wr w1 → PlayRel w w.heap.size b g bs rb (k + 1) (I64 nw) w1 :=
        fun nw w1 h0 h1 ⟨s', hs'⟩ hb => ⟨nw, s', rfl, h0, h1, hs', HBb.out.trans hb⟩
      have NEXT := hide next
      clear next hB
      by_cases h252 : x.d < 252
      all_goals
        go_wp2_with fail
        refine (hs _).out.mono ?_
        rintro e w1 ⟨rfl, ⟨s1, hB1⟩, hbel1⟩
        have HB1 := hide hB1
        have hlt1 := hB1.srv.lt
        have hle1 := hB1.le
        have hlen1 : s1.list.length ≤ 32 := by have := hB1.inv.len; have := hB1.inv.prm.2.2.2.2.2.1; omega
        have c1 := hide (rep_ok b g bs s1 w1 hB1.srv hB1.inv hlt1.1 hlt1.2.1 hlt1.2.2)
        have BL1 := hide hbel1
        clear hbel1 hB1
        go_wp2_with fail
        refine c1.out.mono ?_
        rintro e w2 ⟨A1, rfl, hs2, ho2, hr2⟩
        have HB2 := hide (HB1.out.only ho2)
        have c2 := hide (rreps_ok w.heap.size rb s1 w2 HB2.out.ref HB2.out.inv HB2.out.le.2.2.2.2)
        have HR2 := hide hr2
        have HO2 := hide ho2
        clear hs2 hr2 ho2
        go_wp2_with fail
        refine c2.out.mono ?_
        rintro e w3 ⟨A2, cap2, rfl, hs3, ho3, hr3⟩
        have HB3 := hide (HB2.out.only ho3)
        have c3 := hide (same_ok s1.list A1 A2 s1.list.length cap2 w3 (fun k x hx => by obtain ⟨q, hq, _, h0, h1⟩ := HR2.out k x hx; exact ⟨q, hq, ho3.cellA h0 (by simp), ho3.cellA h1 (by simp)⟩) hr3 hlen1)
        have HO3 := hide (HO2.out.trans ho3)
        clear hs3 hr3 ho3
        go_wp2_with fail
        refine c3.out.mono ?_
        rintro e w4 ⟨rfl, n4, rfl⟩
        have c4 := hide (next_ok b g bs s1 (w3.drewN n4) (HB3.out.only ((Only.refl _ _).drewN n4)).srv HB3.out.inv)
        go_wp2_with fail
        refine c4.out.mono ?_
        rintro e w5 ⟨rfl, n5, rfl⟩
        have HB5 := hide (HB3.out.only ((Only.refl _ _).drewN (n4 + n5)))
        have c5 := hide (rnext_ok w.heap.size rb s1 (w3.drewN (n4 + n5)) HB5.out.ref HB5.out.inv)
        go_wp2_with fail
        refine c5.out.mono ?_
        rintro e w6 ⟨rfl, rfl⟩
        have HBf := hide (BL1.out.trans ((HO3.out.drewN (n4 + n5)).below (by simp) (by omega)))
        go_wp2
        go_roundw
        case rel => exact ⟨k + 1, by omega, by go_num, NEXT.out _ _ (by omega) (by omega) ⟨_, HB5.out⟩ HBf.out⟩
        case measure => simp [intOf]; omega
    · obtain rfl : k = l.length := by omega
      go_wp2_with fail
      refine (awake_ok _).mono ?_
      rintro e w9 ⟨rfl, ho9⟩
      go_wp2
      go_ret
      exact ⟨rfl, hbel.trans (ho9.below (by simp) (by have := hB.le; omega))⟩

def NilRel (w : World) (k : Nat) (nw : Value) (wr : World) : Prop := ∃ m : Int, nw = I64 m ∧ 0 ≤ m ∧ m ≤ 255 * k ∧ Only [] w wr

set_option maxRecDepth 100000 in
set_option maxHeartbeats 8000000 in
theorem plays_bad (B P N L : Int) (A : Option Addr) (l : List AV) (cap : Nat) (w : World) (h : ¬ okRaw B P N L) (hl : l.length ≤ 60) (hok : ∀ x ∈ l, x.ok) (hA : ActsAt w w.heap.size A l) :
    Calls Try.prog 6 #[.agg #[I64 B, I64 P, I64 N, I64 L], .slice A l.length cap] w fun e w' => e = .returned (.bool true) ∧ Below w.heap.size w w' := by
  have HA := hide hA
  clear hA
  go_enter Try.func6, Try.ntmps6
  go_wp2_with fail
  refine (new_no B P N L _ h).mono ?_
  rintro e w1 ⟨rfl, ho⟩
  have hbx := ho.blk (Blk.new w 23 [I64 B, I64 P, I64 N, I64 L]) (by simp)
  have e0 := hbx.cell (i := 0) rfl
  have e1 := hbx.cell (i := 1) rfl
  have e2 := hbx.cell (i := 2) rfl
  have e3 := hbx.cell (i := 3) rfl
  go_wp2_with fail
  refine (from_ok B P N L _).mono ?_
  rintro e w2 ⟨rfl, ho2⟩
  go_wp2_with fail
  refine (rnew_no B P N L w2 h).mono ?_
  rintro e w3 ⟨rfl, ho3⟩
  have hbx3 := ho3.blk (ho2.blk hbx (by simp)) (by simp)
  have HO : Only [] w w3 := ((Only.refl _ _).alloc _).trans (ho.trans (ho2.trans ho3))
  clear ho ho2 ho3 hbx e0 e1 e2 e3
  have e0 := hbx3.cell (i := 0) rfl
  have e1 := hbx3.cell (i := 1) rfl
  have e2 := hbx3.cell (i := 2) rfl
  have e3 := hbx3.cell (i := 3) rfl
  have HX := hide hbx3
  clear hbx3
  go_wp2
  refine wp_region_text0 18 [5, 7, 8] [] [6] (fun w' => w'.cell? ⟨w.heap.size, 0, none⟩ = some (I64 B) ∧ w'.cell? ⟨w.heap.size, 1, none⟩ = some (I64 P) ∧ w'.cell? ⟨w.heap.size, 2, none⟩ = some (I64 N) ∧ w'.cell? ⟨w.heap.size, 3, none⟩ = some (I64 L)) (by kernel_rfl) (by kernel_rfl) ⟨e0, e1, e2, e3⟩ ?_
  repeat (first | ((refine wpText_h rfl rfl ?_; apply Exists.intro; refine ⟨?_, ?_⟩; next => (go_simp; (try (go_bits; go_simp)); (first | done | with_reducible rfl | (rw [if_neg (by omega)]; (try (go_bits; go_simp)); (first | done | with_reducible rfl)) | (rw [if_pos (by omega)]; (try (go_bits; go_simp)); (first | done | with_reducible rfl))))); (try simp only [Act.put, List.setIfInBounds_toArray, List.set_cons_zero, List.set_cons_succ])) | ((refine wpText_p rfl rfl ?_; apply Exists.intro; refine ⟨?_, ?_⟩; next => (intro w'; go_simp; (try (go_bits; go_simp)); (first | done | with_reducible rfl | (rw [if_neg (by omega)]; (try (go_bits; go_simp)); (first | done | with_reducible rfl)) | (rw [if_pos (by omega)]; (try (go_bits; go_simp)); (first | done | with_reducible rfl))))); (try simp only [Act.put, List.setIfInBounds_toArray, List.set_cons_zero, List.set_cons_succ])) | ((refine wpText_y rfl rfl ?_; apply Exists.intro; refine ⟨?_, ?_⟩; next => (intro w' hS; (first | obtain ⟨_, rfl⟩ := hS | skip); go_simp; (try (go_bits; go_simp)); (first | done | with_reducible rfl | (rw [if_neg (by omega)]; (try (go_bits; go_simp)); (first | done | with_reducible rfl)) | (rw [if_pos (by omega)]; (try (go_bits; go_simp)); (first | done | with_reducible rfl))))); (try simp only [Act.put, List.setIfInBounds_toArray, List.set_cons_zero, List.set_cons_succ])) | (refine wpText_skip (by first | exact .inl rfl | exact .inr (.inl rfl) | exact .inr (.inr rfl)) rfl ?_; (try simp only [Act.put, List.setIfInBounds_toArray, List.set_cons_zero, List.set_cons_succ])))
  refine wpText_e rfl rfl (fun K hK => ?_)
  go_wp2_with fail
  refine (check_no B P N L _ h).mono ?_
  rintro e w4 ⟨rfl, ho4⟩
  have HX4 := ho4.blk HX.out.drew (by simp)
  refine hK _ _ ⟨HX4.cell rfl, HX4.cell rfl, HX4.cell rfl, HX4.cell rfl⟩ ?_
  clear hK K
  repeat (first | ((refine wpText_h rfl rfl ?_; apply Exists.intro; refine ⟨?_, ?_⟩; next => (go_simp; (try (go_bits; go_simp)); (first | done | with_reducible rfl | (rw [if_neg (by omega)]; (try (go_bits; go_simp)); (first | done | with_reducible rfl)) | (rw [if_pos (by omega)]; (try (go_bits; go_simp)); (first | done | with_reducible rfl))))); (try simp only [Act.put, List.setIfInBounds_toArray, List.set_cons_zero, List.set_cons_succ])) | ((refine wpText_p rfl rfl ?_; apply Exists.intro; refine ⟨?_, ?_⟩; next => (intro w'; go_simp; (try (go_bits; go_simp)); (first | done | with_reducible rfl | (rw [if_neg (by omega)]; (try (go_bits; go_simp)); (first | done | with_reducible rfl)) | (rw [if_pos (by omega)]; (try (go_bits; go_simp)); (first | done | with_reducible rfl))))); (try simp only [Act.put, List.setIfInBounds_toArray, List.set_cons_zero, List.set_cons_succ])) | ((refine wpText_y rfl rfl ?_; apply Exists.intro; refine ⟨?_, ?_⟩; next => (intro w' hS; (first | obtain ⟨_, rfl⟩ := hS | skip); go_simp; (try (go_bits; go_simp)); (first | done | with_reducible rfl | (rw [if_neg (by omega)]; (try (go_bits; go_simp)); (first | done | with_reducible rfl)) | (rw [if_pos (by omega)]; (try (go_bits; go_simp)); (first | done | with_reducible rfl))))); (try simp only [Act.put, List.setIfInBounds_toArray, List.set_cons_zero, List.set_cons_succ])) | (refine wpText_skip (by first | exact .inl rfl | exact .inr (.inl rfl) | exact .inr (.inr rfl)) rfl ?_; (try simp only [Act.put, List.setIfInBounds_toArray, List.set_cons_zero, List.set_cons_succ])))
  refine wpText_e rfl rfl (fun K hK => ?_)
  go_wp2_with fail
  refine (from_ok B P N L _).mono ?_
  rintro e w5 ⟨rfl, ho5⟩
  have HX5 := ho5.blk HX4 (by simp)
  refine hK _ _ ⟨HX5.cell rfl, HX5.cell rfl, HX5.cell rfl, HX5.cell rfl⟩ ?_
  clear hK K
  repeat (first | ((refine wpText_h rfl rfl ?_; apply Exists.intro; refine ⟨?_, ?_⟩; next => (go_simp; (try (go_bits; go_simp)); (first | done | with_reducible rfl | (rw [if_neg (by omega)]; (try (go_bits; go_simp)); (first | done | with_reducible rfl)) | (rw [if_pos (by omega)]; (try (go_bits; go_simp)); (first | done | with_reducible rfl))))); (try simp only [Act.put, List.setIfInBounds_toArray, List.set_cons_zero, List.set_cons_succ])) | ((refine wpText_p rfl rfl ?_; apply Exists.intro; refine ⟨?_, ?_⟩; next => (intro w'; go_simp; (try (go_bits; go_simp)); (first | done | with_reducible rfl | (rw [if_neg (by omega)]; (try (go_bits; go_simp)); (first | done | with_reducible rfl)) | (rw [if_pos (by omega)]; (try (go_bits; go_simp)); (first | done | with_reducible rfl))))); (try simp only [Act.put, List.setIfInBounds_toArray, List.set_cons_zero, List.set_cons_succ])) | ((refine wpText_y rfl rfl ?_; apply Exists.intro; refine ⟨?_, ?_⟩; next => (intro w' hS; (first | obtain ⟨_, rfl⟩ := hS | skip); go_simp; (try (go_bits; go_simp)); (first | done | with_reducible rfl | (rw [if_neg (by omega)]; (try (go_bits; go_simp)); (first | done | with_reducible rfl)) | (rw [if_pos (by omega)]; (try (go_bits; go_simp)); (first | done | with_reducible rfl))))); (try simp only [Act.put, List.setIfInBounds_toArray, List.set_cons_zero, List.set_cons_succ])) | (refine wpText_skip (by first | exact .inl rfl | exact .inr (.inl rfl) | exact .inr (.inr rfl)) rfl ?_; (try simp only [Act.put, List.setIfInBounds_toArray, List.set_cons_zero, List.set_cons_succ])))
  refine wpText_e rfl rfl (fun K hK => ?_)
  go_wp2_with fail
  refine (rcheck_no B P N L _ h).mono ?_
  rintro e w6 ⟨rfl, ho6⟩
  have HX6 := ho6.blk HX5 (by simp)
  refine hK _ _ ⟨HX6.cell rfl, HX6.cell rfl, HX6.cell rfl, HX6.cell rfl⟩ ?_
  clear hK K
  repeat (first | ((refine wpText_h rfl rfl ?_; apply Exists.intro; refine ⟨?_, ?_⟩; next => (go_simp; (try (go_bits; go_simp)); (first | done | with_reducible rfl | (rw [if_neg (by omega)]; (try (go_bits; go_simp)); (first | done | with_reducible rfl)) | (rw [if_pos (by omega)]; (try (go_bits; go_simp)); (first | done | with_reducible rfl))))); (try simp only [Act.put, List.setIfInBounds_toArray, List.set_cons_zero, List.set_cons_succ])) | ((refine wpText_p rfl rfl ?_; apply Exists.intro; refine ⟨?_, ?_⟩; next => (intro w'; go_simp; (try (go_bits; go_simp)); (first | done | with_reducible rfl | (rw [if_neg (by omega)]; (try (go_bits; go_simp)); (first | done | with_reducible rfl)) | (rw [if_pos (by omega)]; (try (go_bits; go_simp)); (first | done | with_reducible rfl))))); (try simp only [Act.put, List.setIfInBounds_toArray, List.set_cons_zero, List.set_cons_succ])) | ((refine wpText_y rfl rfl ?_; apply Exists.intro; refine ⟨?_, ?_⟩; next => (intro w' hS; (first | obtain ⟨_, rfl⟩ := hS | skip); go_simp; (try (go_bits; go_simp)); (first | done | with_reducible rfl | (rw [if_neg (by omega)]; (try (go_bits; go_simp)); (first | done | with_reducible rfl)) | (rw [if_pos (by omega)]; (try (go_bits; go_simp)); (first | done | with_reducible rfl))))); (try simp only [Act.put, List.setIfInBounds_toArray, List.set_cons_zero, List.set_cons_succ])) | (refine wpText_skip (by first | exact .inl rfl | exact .inr (.inl rfl) | exact .inr (.inr rfl)) rfl ?_; (try simp only [Act.put, List.setIfInBounds_toArray, List.set_cons_zero, List.set_cons_succ])))
  refine wpText_nil ?_
  go_wp2
  have HO6 : Only [] w3 w6 := ((((Only.refl [] w3).drew).trans ho4).trans ho5).trans ho6
  have hst := hide (show NilRel w 0 (I64 0) w6 from ⟨0, rfl, by omega, by omega, HO.trans HO6⟩)
  clear HX HX4 HX5 HX6 ho4 ho5 ho6 HO HO6 e0 e1 e2 e3 h
  go_loopw [9, 10] (fun nw i wr => ∃ k : Nat, k ≤ l.length ∧ i = .int .i64 k ∧ NilRel w k nw wr) (fun _ i _ => l.length - (intOf i).toNat)
  case atStart => exact ⟨0, Nat.zero_le _, rfl, hst.out⟩
  case round =>
    obtain ⟨k, hk, rfl, m, rfl, hm0, hm1, hor⟩ := hrel
    clear hst
    rcases Nat.lt_or_ge k l.length with hlt | hge
    · obtain ⟨x, hx⟩ : ∃ x, l[k]? = some x := ⟨_, List.getElem?_eq_getElem hlt⟩
      obtain ⟨xd0, xd1, xg0, xg1⟩ := hok x (List.mem_of_getElem? hx)
      obtain ⟨ab, ao, rfl, hab, a0, a1, a2, a3⟩ := (HA.out.below (hor.below (by simp) (Nat.le_refl _))) k x hx
      clear hx
      have hs := fun at_ => hide (step_nil x.d x.gap x.raw x.nm at_ wr xd0 xd1)
      have HOR := hide hor
      clear hor
      by_cases h252 : x.d < 252
      all_goals
        go_wp2_with fail
        refine (hs _).out.mono ?_
        rintro e w1 ⟨rfl, ho1⟩
        have HO1 := hide (HOR.out.trans ho1)
        clear ho1
        go_wp2_with fail
        refine (reps_nil _).mono ?_
        rintro e w2 ⟨rfl, rfl⟩
        go_wp2_with fail
        refine (rreps_nil _).mono ?_
        rintro e w2 ⟨rfl, rfl⟩
        go_wp2_with fail
        refine (same_ok [] none none 0 0 _ (fun k x hx => by simp at hx) (fun k x hx => by simp at hx) (by simp)).mono ?_
        rintro e w4 ⟨rfl, n4, rfl⟩
        go_wp2_with fail
        refine (next_nil _).mono ?_
        rintro e w5 ⟨rfl, rfl⟩
        go_wp2_with fail
        refine (rnext_nil _).mono ?_
        rintro e w6 ⟨rfl, rfl⟩
        go_wp2
        go_roundw
        case rel => exact ⟨k + 1, by omega, by go_num, _, rfl, by omega, by omega, HO1.out.drewN n4⟩
        case measure => simp [intOf]; omega
    · obtain rfl : k = l.length := by omega
      go_wp2_with fail
      refine (awake_ok _).mono ?_
      rintro e w9 ⟨rfl, ho9⟩
      go_wp2
      go_ret
      exact ⟨rfl, (hor.trans ho9).below (by simp) (Nat.le_refl _)⟩

end Go.Proofs.Ytdjkgbkckmjfiaa
