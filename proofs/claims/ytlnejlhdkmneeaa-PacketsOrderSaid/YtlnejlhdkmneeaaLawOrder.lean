/- PacketsOrder answers true. -/
import Derived.Test.YtlnejlhdkmneeaaLawOrderP
import Derived.Test.YtlnejlhdkmneeaaWalkI
namespace Go.Proofs.Ytlnejlhdkmneeaa
open Go.RowKit

/-- What Add leaves, in all cases. -/
def AddedR (rs : List Rt) (x : Rt) (b : Nat) (v : Value) (w : World) (e : Ending) (w' : World) : Prop :=
  ∃ cd v', e = .returned (I64 cd) ∧ RoutesAt w' b v' (addR rs x) ∧ Only (b :: v.ownBlock.toList) w w' ∧ (v'.ownBlock = v.ownBlock ∨ ∃ g, v'.ownBlock = some g ∧ w.heap.size ≤ g)
theorem AddRtS.added {x : Rt} {rs : List Rt} {b : Nat} {v : Value} {w w' : World} {e : Ending} (hr : RoutesAt w b v rs) (h : AddRtS x rs b v w e w') : AddedR rs x b v w e w' := by
  rcases h with ⟨rfl, h1, h2⟩ | ⟨h0, h1, rfl, h2⟩ | ⟨h0, h1, h5, rfl, h2⟩ | ⟨h0, h1, h5, rfl, v', h2, h3, h4⟩
  · exact ⟨_, v, rfl, by unfold addR; rw [if_neg (fun hh => h1 hh.1)]; exact hr.only h2 (by simp) (by simp), h2.mono (by simp), .inl rfl⟩
  · exact ⟨_, v, rfl, by unfold addR; rw [if_neg (fun hh => hh.2.1 h1)]; exact hr.only h2 (by simp) (by simp), h2.mono (by simp), .inl rfl⟩
  · exact ⟨_, v, rfl, by unfold addR; rw [if_neg (fun hh => by omega)]; exact hr.only h2 (by simp) (by simp), h2.mono (by simp), .inl rfl⟩
  · exact ⟨_, v', rfl, by unfold addR; rw [if_pos ⟨h0, h1, h5⟩]; exact h2, h3, h4⟩

/-- Two lists of routes that the call made. -/
def Two (w0 : World) (p q : Nat) (xs ys : List Rt) (w : World) : Prop :=
  ∃ vx vy, RoutesAt w p vx xs ∧ RoutesAt w q vy ys ∧ p ≠ q ∧ w0.heap.size ≤ p ∧ w0.heap.size ≤ q ∧ Only [] w0 w ∧ (∀ g, vx.ownBlock = some g → w0.heap.size ≤ g ∧ vy.ownBlock ≠ some g) ∧ (∀ g, vy.ownBlock = some g → w0.heap.size ≤ g)
theorem Two.symm {w0 w : World} {p q : Nat} {xs ys : List Rt} (h : Two w0 p q xs ys w) : Two w0 q p ys xs w := by
  obtain ⟨vx, vy, h1, h2, h3, h4, h5, h6, h7, h8⟩ := h
  exact ⟨vy, vx, h2, h1, h3.symm, h5, h4, h6, fun g hg => ⟨h8 g hg, fun hh => (h7 g hh).2 hg⟩, fun g hg => (h7 g hg).1⟩
theorem Two.only {w0 w w' : World} {p q : Nat} {xs ys : List Rt} (h : Two w0 p q xs ys w) (ho : Only [] w w') : Two w0 p q xs ys w' := by
  obtain ⟨vx, vy, h1, h2, h3, h4, h5, h6, h7, h8⟩ := h
  exact ⟨vx, vy, h1.only ho (by simp) (by simp), h2.only ho (by simp) (by simp), h3, h4, h5, Only.trans h6 ho, h7, h8⟩
theorem Two.added {w0 w w' : World} {p q : Nat} {xs ys : List Rt} {x : Rt} {e : Ending} {vx vy : Value} (h1 : RoutesAt w p vx xs) (h2 : RoutesAt w q vy ys) (h3 : p ≠ q) (h4 : w0.heap.size ≤ p) (h5 : w0.heap.size ≤ q) (h6 : Only [] w0 w)
    (h7 : ∀ g, vx.ownBlock = some g → w0.heap.size ≤ g ∧ vy.ownBlock ≠ some g) (h8 : ∀ g, vy.ownBlock = some g → w0.heap.size ≤ g) (h : AddedR xs x p vx w e w') : Two w0 p q (addR xs x) ys w' := by
  obtain ⟨cd, v', rfl, k1, k2, k3⟩ := h
  have hpq : vx.ownBlock ≠ some q := own_ne_blk h1.row h2.me (by decide)
  have hyp : vy.ownBlock ≠ some p := own_ne_blk h2.row h1.me (by decide)
  refine ⟨v', vy, k1, h2.only k2 ?_ ?_, h3, h4, h5, h6.trans' k2 ?_, ?_, h8⟩
  · simp only [List.mem_cons, Option.mem_toList, not_or]; exact ⟨h3.symm, hpq⟩
  · intro k hk
    simp only [List.mem_cons, Option.mem_toList, not_or]
    exact ⟨fun e => hyp (by rw [hk, e]), fun hh => (h7 k hh).2 hk⟩
  · intro i hi hlt
    rcases List.mem_cons.1 hi with rfl | hi
    · omega
    · have := (h7 i (by simpa using hi)).1; omega
  · intro g hg
    rcases k3 with k3 | ⟨g', k3, k4⟩
    · rw [k3] at hg; exact h7 g hg
    · rw [k3] at hg
      injection hg with hg
      subst hg
      refine ⟨Nat.le_trans h6.size k4, fun hh => ?_⟩
      have := (h2.row.lt g' hh).2
      omega

theorem rev_at {l : List Rt} {n k : Nat} {x : Rt} (hn : l.length = n) (hk : k < n) (h : l[n - 1 - k]? = some x) : l.reverse.take (k + 1) = l.reverse.take k ++ [x] := by
  rw [List.take_add_one, List.getElem?_reverse (by omega), hn, h]; rfl

set_option maxRecDepth 100000 in
set_option maxHeartbeats 16000000 in
theorem order_ok (A : Option Addr) (n c : Nat) (l : List Rt) (a : Int) (w : World) (hn : l.length = n) (hm : n ≤ maxLen) (ha : 0 ≤ a ∧ a < 4294967296) (hf : ∀ x ∈ l, x.Fit) (hA : RtsIn w A l) :
    Calls Try.prog 8 #[.slice A n c, .int .u32 a] w fun e w' => e = .returned (.bool true) ∧ Only [] w w' := by
  unfold maxLen at hm
  have HN := hide hn
  have HF := hide hf
  have HR := hide hA
  have HA := hide ha
  have HL := hide (order_law l a)
  clear hn hf hA ha
  by_cases h30 : 30 < n
  · go_enter Try.func8, Try.ntmps8
    go_wp2_with fail
    refine (awake_ok _).mono ?_
    rintro e w1 ⟨rfl, ho⟩
    have HO := hide ho
    clear ho
    go_wp2
    go_ret
    exact ⟨rfl, HO.out⟩
  · go_enter Try.func8, Try.ntmps8
    go_wp2_with fail
    refine (newRoutes_ok _).mono ?_
    rintro e w1 ⟨rfl, h1, ho1⟩
    have H1 := hide (And.intro h1 ho1)
    clear h1 ho1
    go_wp2_with fail
    refine (newRoutes_ok _).mono ?_
    rintro e w2 ⟨rfl, h2, ho2⟩
    have HT := hide (show Two w w.heap.size w1.heap.size (adds (l.take 0)) (adds (l.reverse.take 0)) w2 from ⟨_, _, H1.out.1.only ho2 (by simp) (by simp), h2, by have := H1.out.1.me.lt; omega, Nat.le_refl _, H1.out.2.size, Only.trans H1.out.2 ho2, by simp [Value.ownBlock], by simp [Value.ownBlock]⟩)
    obtain ⟨p, hp⟩ : ∃ p, p = w.heap.size := ⟨_, rfl⟩
    obtain ⟨q, hq⟩ : ∃ q, q = w1.heap.size := ⟨_, rfl⟩
    rw [← hp, ← hq] at HT
    rw [← hp, ← hq]
    clear h2 ho2 H1 hp hq
    go_wp2
    go_loopw [7, 20] (fun _ i wr => ∃ k : Nat, k ≤ n ∧ i = .int .i64 k ∧ Hid (Two w p q (adds (l.take k)) (adds (l.reverse.take k)) wr)) (fun _ i _ => n - (intOf i).toNat)
    case atStart => exact ⟨0, Nat.zero_le _, rfl, HT⟩
    case round =>
      obtain ⟨k, hk, rfl, HW⟩ := hrel
      rcases Nat.lt_or_ge k n with hlt | hge
      · obtain ⟨x, hx⟩ : ∃ x, l[k]? = some x := ⟨_, List.getElem?_eq_getElem (by rw [HN.out]; exact hlt)⟩
        obtain ⟨y, hy⟩ : ∃ y, l[n - 1 - k]? = some y := ⟨_, List.getElem?_eq_getElem (by rw [HN.out]; omega)⟩
        have hfx := HF.out x (List.mem_of_getElem? hx)
        have hfy := HF.out y (List.mem_of_getElem? hy)
        have HX := hide (show adds (l.take (k + 1)) = addR (adds (l.take k)) x by rw [List.take_add_one, hx]; exact adds_snoc _ _)
        have HY := hide (show adds (l.reverse.take (k + 1)) = addR (adds (l.reverse.take k)) y by rw [rev_at HN.out hlt hy]; exact adds_snoc _ _)
        have lx : (adds (l.take k)).length ≤ 30 := Nat.le_trans (adds_len _) (by rw [List.length_take]; omega)
        have ly : (adds (l.reverse.take k)).length ≤ 30 := Nat.le_trans (adds_len _) (by rw [List.length_take]; omega)
        obtain ⟨vx, vy, t1, t2, t3, t4, t5, t6, t7, t8⟩ := HW.out
        obtain ⟨g, o, rfl, hcx⟩ := (HR.out.only t6) k x hx
        have HCY := hide (fun (W : World) (hW : Only [] w W) => (HR.out.only hW) (n - 1 - k) y hy)
        have x0 := hcx 0 _ rfl
        rw [Nat.add_zero] at x0
        have x1 := hcx 1 _ rfl
        have x2 := hcx 2 _ rfl
        have x3 := hcx 3 _ rfl
        have x4 := hcx 4 _ rfl
        have HT1 := hide (show _ ∧ _ ∧ _ ∧ _ ∧ _ ∧ _ ∧ _ ∧ _ from ⟨t1, t2, t3, t4, t5, t6, t7, t8⟩)
        clear hx hy t1 t2 t3 t4 t5 t6 t7 t8 hcx
        go_wp2_with fail
        refine ((addRt_ok p vx _ _ x _ rfl (by omega) hfx HT1.out.1).mono fun _ _ h => AddRtS.added HT1.out.1 h).mono ?_
        intro e w3 h3
        have h3 := hide h3
        obtain ⟨cd, v', rfl, -⟩ := h3.out
        have HW2 := hide (Two.added HT1.out.1 HT1.out.2.1 HT1.out.2.2.1 HT1.out.2.2.2.1 HT1.out.2.2.2.2.1 HT1.out.2.2.2.2.2.1 HT1.out.2.2.2.2.2.2.1 HT1.out.2.2.2.2.2.2.2 h3.out).symm
        clear h3 HT1 x0 x1 x2 x3 x4
        obtain ⟨vy2, vx2, t1, t2, t3, t4, t5, t6, t7, t8⟩ := HW2.out
        obtain ⟨g', o', hgo, hcy⟩ := HCY.out w3 t6
        injection hgo with hgo
        injection hgo with hg' ho'
        subst hg' ho'
        have x0 := hcy 0 _ rfl
        rw [Nat.add_zero] at x0
        have x1 := hcy 1 _ rfl
        have x2 := hcy 2 _ rfl
        have x3 := hcy 3 _ rfl
        have x4 := hcy 4 _ rfl
        have HT1 := hide (show _ ∧ _ ∧ _ ∧ _ ∧ _ ∧ _ ∧ _ ∧ _ from ⟨t1, t2, t3, t4, t5, t6, t7, t8⟩)
        clear t1 t2 t3 t4 t5 t6 t7 t8 hcy HW2
        go_wp2_with fail
        refine ((addRt_ok q vy2 _ _ y _ rfl (by omega) hfy HT1.out.1).mono fun _ _ h => AddRtS.added HT1.out.1 h).mono ?_
        intro e w4 h4
        have h4 := hide h4
        obtain ⟨cd, v'', rfl, -⟩ := h4.out
        have HW3 := hide (Two.added HT1.out.1 HT1.out.2.1 HT1.out.2.2.1 HT1.out.2.2.2.1 HT1.out.2.2.2.2.1 HT1.out.2.2.2.2.2.1 HT1.out.2.2.2.2.2.2.1 HT1.out.2.2.2.2.2.2.2 h4.out).symm
        clear h4 HT1 x0 x1 x2 x3 x4
        go_wp2
        go_roundw
        case rel => exact ⟨k + 1, by omega, by go_num, by rw [HX.out, HY.out]; exact HW3⟩
        case measure => simp [intOf]; omega
      · obtain rfl : k = n := by omega
        have HW1 := hide (show Two w p q (adds l) (adds l.reverse) wr by
          have h := HW.out
          rw [List.take_of_length_le (by rw [HN.out]; exact Nat.le_refl _), List.take_of_length_le (by rw [List.length_reverse, HN.out]; exact Nat.le_refl _)] at h
          exact h)
        clear HW
        have lx : (adds l).length ≤ 30 := Nat.le_trans (adds_len _) (by rw [HN.out]; omega)
        have ly : (adds l.reverse).length ≤ 30 := Nat.le_trans (adds_len _) (by rw [List.length_reverse, HN.out]; omega)
        obtain ⟨vx, vy, t1, t2, t3, t4, t5, t6, t7, t8⟩ := HW1.out
        obtain ⟨Ax, cx, rfl⟩ := own_shape t1.row
        obtain ⟨Ay, cy, rfl⟩ := own_shape t2.row
        have HT1 := hide (show _ ∧ _ ∧ _ from ⟨t1, t2, t6⟩)
        have HLX := hide (lookup_ok p Ax cx (adds l) _ a _ rfl (by omega) HA.out (fun x hx => code_bits ((adds_mem (by rw [HN.out]; omega) x).1 hx).2) t1)
        have HVY := hide (show ∀ x ∈ adds l.reverse, 0 ≤ x.bits ∧ x.bits ≤ 32 from fun x hx => code_bits ((adds_mem (by rw [List.length_reverse, HN.out]; omega) x).1 hx).2)
        clear t1 t2 t3 t4 t5 t6 t7 t8 HW1
        go_wp2_with fail
        refine HLX.out.mono ?_
        rintro e w1 ⟨ho1, hres⟩
        have HO1 := hide ho1
        have HRS := hide hres
        have HL2 := hide (HL.out (by rw [HN.out]; omega))
        clear HLX ho1
        obtain ⟨r1, cd1, rfl, HC1⟩ : ∃ (r : Rt) (cd : Int), e = .returned (.tuple #[r.V, I64 cd]) ∧ Hid ((bestR (adds l) a = none ∧ r = Rt.zero ∧ cd = 39) ∨ (bestR (adds l) a = some r ∧ cd = 0)) := by
          rcases hres with ⟨h1, h2⟩ | ⟨y, h1, h2⟩
          · exact ⟨Rt.zero, 39, h2, hide (.inl ⟨h1, rfl, rfl⟩)⟩
          · exact ⟨y, 0, h2, hide (.inr ⟨h1, rfl⟩)⟩
        clear hres HRS
        have HB1 := hide (show Only [] w (w1.alloc (.cells #[.int .u32 r1.addr, I64 r1.bits, .int .u32 r1.gw, I64 r1.ifc, I64 r1.met] 63)) ∧ Blk (w1.alloc (.cells #[.int .u32 r1.addr, I64 r1.bits, .int .u32 r1.gw, I64 r1.ifc, I64 r1.met] 63)) w1.heap.size 63 [.int .u32 r1.addr, I64 r1.bits, .int .u32 r1.gw, I64 r1.ifc, I64 r1.met] ∧ RoutesAt (w1.alloc (.cells #[.int .u32 r1.addr, I64 r1.bits, .int .u32 r1.gw, I64 r1.ifc, I64 r1.met] 63)) q (.slice Ay (adds l.reverse).length cy) (adds l.reverse) from ⟨Only.trans HT1.out.2.2 (HO1.out.alloc _), Blk.newA rfl, HT1.out.2.1.only (HO1.out.alloc _) (by simp) (by simp)⟩)
        go_wp2_with fail
        refine (lookup_ok q Ay cy (adds l.reverse) _ a _ rfl (by omega) HA.out HVY.out HB1.out.2.2).mono ?_
        rintro e w2 ⟨ho2, hres⟩
        have HB2 := hide (show _ ∧ _ from ⟨Only.trans HB1.out.1 ho2, ho2.blk HB1.out.2.1 (by simp)⟩)
        clear ho2 HB1 HO1 HT1
        obtain ⟨⟨a2, b2, g2, i2, m2⟩, cd2, rfl, HC2⟩ : ∃ (r : Rt) (cd : Int), e = .returned (.tuple #[r.V, I64 cd]) ∧ Hid ((bestR (adds l.reverse) a = none ∧ r = Rt.zero ∧ cd = 39) ∨ (bestR (adds l.reverse) a = some r ∧ cd = 0)) := by
          rcases hres with ⟨h1, h2⟩ | ⟨y, h1, h2⟩
          · exact ⟨Rt.zero, 39, h2, hide (.inl ⟨h1, rfl, rfl⟩)⟩
          · exact ⟨y, 0, h2, hide (.inr ⟨h1, rfl⟩)⟩
        clear hres
        have key : cd1 = cd2 ∧ r1.bits = b2 ∧ r1.met = m2 := by
          rcases HL2.out with ⟨h1, h2⟩ | ⟨y, z, h1, h2, h3, h4⟩
          · rcases HC1.out with ⟨_, rfl, rfl⟩ | ⟨k1, _⟩
            · rcases HC2.out with ⟨_, k2, rfl⟩ | ⟨k2, _⟩
              · injection k2 with _ e2 _ _ e5; exact ⟨rfl, e2.symm, e5.symm⟩
              · rw [h2] at k2; cases k2
            · rw [h1] at k1; cases k1
          · rcases HC1.out with ⟨k1, _⟩ | ⟨k1, rfl⟩
            · rw [h1] at k1; cases k1
            · rcases HC2.out with ⟨k2, _⟩ | ⟨k2, rfl⟩
              · rw [h2] at k2; cases k2
              · rw [h1] at k1; injection k1 with k1; subst k1
                rw [h2] at k2; injection k2 with k2; subst k2
                exact ⟨rfl, h3, h4⟩
        clear HC1 HC2 HL2
        obtain ⟨rfl, rfl, rfl⟩ := key
        have f1 := HB2.out.2.cell (i := 1) rfl
        have f4 := HB2.out.2.cell (i := 4) rfl
        have ltf := HB2.out.2.lt
        go_wp2_with fail
        refine (awake_ok _).mono ?_
        rintro e w3 ⟨rfl, ho⟩
        have HO := hide (Only.trans (HB2.out.1.alloc _) ho)
        clear ho
        go_wp2
        go_ret
        exact ⟨rfl, HO.out⟩

end Go.Proofs.Ytlnejlhdkmneeaa
