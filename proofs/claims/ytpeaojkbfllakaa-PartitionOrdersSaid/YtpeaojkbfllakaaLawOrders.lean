/- The law PartitionOrders, walked. -/
import Derived.Test.YtpeaojkbfllakaaLawA
namespace Go.Proofs.Ytpeaojkbfllakaa
open Go.RowKit

theorem cmpv_anti {x y u v : Int} (hx : 0 ≤ x) (hy : 0 ≤ y) : cmpv y x v u = - cmpv x y u v := by
  unfold cmpv
  (repeat' split) <;> omega
theorem cmpv_self {x u : Int} (hx : 0 ≤ x) : cmpv x x u u = 0 := by
  have := cmpv_anti (u := u) (v := u) hx hx
  omega
theorem cmpv_le {x y u v : Int} (hx : 0 ≤ x) (hy : 0 ≤ y) : cmpv x y u v ≤ 0 ↔ (0 < x ∧ 0 < y ∧ u * y ≤ v * x) ∨ (y = 0) := by
  unfold cmpv
  by_cases a : x = 0
  · by_cases b : y = 0
    · subst a; subst b; simp
    · rw [if_pos (.inl a), if_neg (by omega), if_pos (by omega)]; omega
  · by_cases b : y = 0
    · rw [if_pos (.inr b), if_pos (by omega)]; omega
    · rw [if_neg (by omega)]
      by_cases c : u * y < v * x
      · rw [if_pos c]; omega
      · by_cases d : v * x < u * y
        · rw [if_neg c, if_pos d]; omega
        · rw [if_neg c, if_neg d]; omega
theorem cmpv_trans {x y z u v t : Int} (hx : 0 ≤ x) (hy : 0 ≤ y) (hz : 0 ≤ z) (h1 : cmpv x y u v ≤ 0) (h2 : cmpv y z v t ≤ 0) : cmpv x z u t ≤ 0 := by
  rw [cmpv_le hx hy] at h1
  rw [cmpv_le hy hz] at h2
  rw [cmpv_le hx hz]
  rcases h2 with ⟨y0, z0, h2⟩ | h2
  · rcases h1 with ⟨x0, _, h1⟩ | h1
    · refine .inl ⟨x0, z0, ?_⟩
      have a := Int.mul_le_mul_of_nonneg_right h1 hz
      have b := Int.mul_le_mul_of_nonneg_right h2 hx
      have e1 : u * y * z = (u * z) * y := by rw [Int.mul_assoc, Int.mul_comm y z, ← Int.mul_assoc]
      have e2 : v * x * z = v * z * x := by rw [Int.mul_assoc, Int.mul_comm x z, ← Int.mul_assoc]
      have e3 : t * y * x = (t * x) * y := by rw [Int.mul_assoc, Int.mul_comm y x, ← Int.mul_assoc]
      rw [e1, e2] at a
      rw [e3] at b
      exact Int.le_of_mul_le_mul_right (Int.le_trans a b) y0
    · omega
  · exact .inr h2

/-- How two parts compare at a time. -/
def Mtr.rel (m : Mtr) (now : Int) (a b : Nat) : Int := cmpv (m.cfg.bud (m.cfg.share a).1) (m.cfg.bud (m.cfg.share b).1) ((m.at_ now).sumv a false) ((m.at_ now).sumv b false)
theorem bud_nn {c : Cfg} (h : c.ok) (p : Nat) : 0 ≤ c.bud (c.share p).1 := (bud_bd h (h.share p).1.1 (h.share p).1.2).2.2.2.2.1

/-- The meter stands at a time not behind 'now', and would tell the same there. -/
structure Same (c : Cfg) (M : Mtr) (now : Int) (m : Mtr) : Prop where
  cfg : m.cfg = c
  at_ : m.at_ now = M
  le : m.now ≤ now
theorem Same.comp {c : Cfg} {M m : Mtr} {now : Int} (h : Same c M now m) (h0 : 0 ≤ now) (h1 : now ≤ 1000) {a b : Nat} (ha : a < c.parts.length) (hb : b < c.parts.length) :
    m.comp now a b = (M, M.rel now a b, 0) ∧ Same c M now M := by
  obtain ⟨rfl, rfl, hle⟩ := h
  refine ⟨?_, rfl, rfl, by show now ≤ now; omega⟩
  rw [comp_eq (err_ok h0 (by omega) hle (by simp; omega))]
  rfl

def OrdRel (w : World) (W P : Int) (A : Option Addr) (c : Cfg) (n cap b pb : Nat) (M : Mtr) (now : Int) (wr : World) : Prop :=
  ∃ m, Law w wr W P A n cap b pb m ∧ Same c M now m
def OrdRel0 (w : World) (W P : Int) (A : Option Addr) (c : Cfg) (n cap b pb : Nat) (k : Nat) (wr : World) : Prop :=
  ∃ m, Law w wr W P A n cap b pb m ∧ m.cfg = c ∧ m.now ≤ k

set_option maxRecDepth 100000 in
set_option maxHeartbeats 8000000 in
theorem orders_good (W P : Int) (A : Option Addr) (l : List (Int × Int)) (cap : Nat) (A2 : Option Addr) (gs : List Nat) (cap2 : Nat) (w : World) (hA : PartsIn w w.heap.size A l) (hcap : l.length ≤ cap) (hc : chk W P l = 0)
    (h2 : gs.length ≤ 100) (hg8 : ∀ x ∈ gs, x ≤ 255) (hR : Reads w w.heap.size .u8 A2 (gs.map fun (x : Nat) => (x : Int))) :
    Calls Try.prog 5 #[.agg #[I64 W, I64 P, .slice A l.length cap], .slice A2 gs.length cap2] w fun e w' => e = .returned (.bool true) ∧ Only [] w w' := by
  obtain ⟨hok, hW, hP⟩ := chk_zero hc
  have ho := (Only.refl [] w).alloc (.cells #[I64 W, I64 P, .slice A l.length cap] 24)
  have hn := hide (new_yes W P A l cap _ w.heap.size (hA.only ho (Nat.le_refl _)) ho.size hcap hc)
  have hbx := Blk.new w 24 [I64 W, I64 P, .slice A l.length cap]
  have e0 := hbx.cell (i := 0) rfl
  have e1 := hbx.cell (i := 1) rfl
  have e2 := hbx.cell (i := 2) rfl
  obtain ⟨c, hcc⟩ : ∃ c : Cfg, c = ⟨W.toNat, P.toNat, l⟩ := ⟨_, rfl⟩
  have hlc : l = c.parts := by rw [hcc]
  have hok' : c.ok := by rw [hcc]; exact hok
  rw [← hcc] at hn
  have HOK := hide hok'
  have HO := hide ho
  have HBX := hide hbx
  have HR := hide hR
  have hl1 := hok'.2.2.2.2.1
  have hl8 := hok'.2.2.2.2.2.1
  clear hA hc ho hbx hok hW hP hR hok' hcc
  subst hlc
  generalize hnn : c.parts.length = n at *
  have HNN := hide hnn
  clear hnn
  go_enter Try.func5, Try.ntmps5
  go_wp2_with fail
  refine hn.out.mono ?_
  rintro e w1 ⟨b, pb, rfl, hm1, hbb, _, ho1⟩
  have hst := hide (show OrdRel0 w W P A c n cap b pb 0 w1 from ⟨_, ⟨HO.out.trans ho1, ho1.blk HBX.out (by simp), hm1, Mtr.Inv.new HOK.out, by simp at hbb; omega⟩, rfl, by simp [Mtr.new]⟩)
  clear hm1 hbb ho1 HO HBX e0 e1 e2
  go_wp2
  go_loopw [7] (fun i wr => ∃ k : Nat, k ≤ gs.length ∧ i = .int .i64 k ∧ OrdRel0 w W P A c n cap b pb k wr) (fun i _ => gs.length - (intOf i).toNat)
  case atStart => exact ⟨0, Nat.zero_le _, rfl, hst.out⟩
  case round =>
    obtain ⟨k, hk, rfl, m, hL, hcfg, hle⟩ := hrel
    clear hst
    have HL := hide hL
    have HCF := hide hcfg
    have x2 := hL.box.cell (i := 2) rfl
    rcases Nat.lt_or_ge k gs.length with hlt | hge
    · obtain ⟨g, hg⟩ : ∃ x, gs[k]? = some x := ⟨_, List.getElem?_eq_getElem hlt⟩
      have hg255 : g ≤ 255 := hg8 g (List.mem_of_getElem? hg)
      obtain ⟨ab, ao, rfl, hab, hcell⟩ := (HR.out.only hL.only (Nat.le_refl _) (by simp)) k (g : Int) (by simp [hg])
      have hl0 : 0 < n := by omega
      have hm0 : (0 : Int) ≤ (g : Int) % n := Int.emod_nonneg _ (by omega)
      have hm1 : (g : Int) % n < n := Int.emod_lt_of_pos _ (by omega)
      have hch := fun w' hm => hide (charge_ok b pb m k ((g : Int) % n) false w' hm hL.inv)
      have hnx : Hid ((m.charge k ((g : Int) % n) false).1.cfg = c ∧ (m.charge k ((g : Int) % n) false).1.now ≤ (k + 1 : Nat)) := hide (by
        have he : m.err k [(g : Int) % n] = 0 := err_ok (by omega) (by omega) hle (by rw [hcfg, HNN.out]; simp; omega)
        unfold Mtr.charge
        rw [if_neg (by simpa using he)]
        split
        · exact ⟨hcfg, by dsimp only; omega⟩
        · exact ⟨hcfg, by show (k : Int) ≤ _; omega⟩)
      clear hL hcfg hg
      go_wp2
      refine wp_region_text 11 [] [] [] (fun _ => True) (by kernel_rfl) (by kernel_rfl) trivial ?_
      simp only [List.take_succ_cons, List.take_zero, List.drop_succ_cons, List.drop_zero]
      repeat (first | ((refine wpText_h rfl rfl ?_; apply Exists.intro; refine ⟨?_, ?_⟩; next => (go_simp; (try (go_bits; go_simp)); (first | done | with_reducible rfl | (rw [if_neg (by omega)]; (try (go_bits; go_simp)); (first | done | with_reducible rfl)) | (rw [if_pos (by omega)]; (try (go_bits; go_simp)); (first | done | with_reducible rfl))))); (try simp only [Act.put, List.setIfInBounds_toArray, List.set_cons_zero, List.set_cons_succ])) | ((refine wpText_p rfl rfl ?_; apply Exists.intro; refine ⟨?_, ?_⟩; next => (intro w'; go_simp; (try (go_bits; go_simp)); (first | done | with_reducible rfl | (rw [if_neg (by omega)]; (try (go_bits; go_simp)); (first | done | with_reducible rfl)) | (rw [if_pos (by omega)]; (try (go_bits; go_simp)); (first | done | with_reducible rfl))))); (try simp only [Act.put, List.setIfInBounds_toArray, List.set_cons_zero, List.set_cons_succ])) | ((refine wpText_y rfl rfl ?_; apply Exists.intro; refine ⟨?_, ?_⟩; next => (intro w' hS; (first | obtain ⟨_, rfl⟩ := hS | skip); go_simp; (try (go_bits; go_simp)); (first | done | with_reducible rfl | (rw [if_neg (by omega)]; (try (go_bits; go_simp)); (first | done | with_reducible rfl)) | (rw [if_pos (by omega)]; (try (go_bits; go_simp)); (first | done | with_reducible rfl))))); (try simp only [Act.put, List.setIfInBounds_toArray, List.set_cons_zero, List.set_cons_succ])) | (refine wpText_skip (by first | exact .inl rfl | exact .inr (.inl rfl) | exact .inr (.inr rfl)) rfl ?_; (try simp only [Act.put, List.setIfInBounds_toArray, List.set_cons_zero, List.set_cons_succ])))
      refine wpText_nil ?_
      go_wp2_with fail
      refine (hch _ (HL.out.drewN 1).mtr).out.mono ?_
      rintro e w2 ⟨rfl, hm2, ho2⟩
      have HN := hide ((HL.out.drewN 1).step hm2 (charge_inv HL.out.inv _ _ _) ho2)
      clear hm2 ho2
      go_wp2
      refine NoX.normal ?_
      go_wp2
      go_roundw
      case rel => exact ⟨k + 1, by omega, by go_num, _, HN.out, hnx.out⟩
      case measure => simp [intOf]; omega
    · obtain rfl : k = gs.length := by omega
      have hst : Hid (OrdRel w W P A c n cap b pb (m.at_ gs.length) gs.length wr) := hide ⟨m, hL, hcfg, rfl, hle⟩
      clear hL hcfg x2 HL HCF
      have cmpx : ∀ (wr : World) (p q : Nat), p < n → q < n → OrdRel w W P A c n cap b pb (m.at_ gs.length) gs.length wr →
          Calls Try.prog 15 #[.pointer (some ⟨b, 0, none⟩), I64 gs.length, I64 p, I64 q] wr
            fun e w' => e = .returned (.tuple #[I64 ((m.at_ gs.length).rel gs.length p q), I64 0]) ∧ OrdRel w W P A c n cap b pb (m.at_ gs.length) gs.length w' := by
        rintro wr p q hp hq ⟨m', hL', hs⟩
        obtain ⟨hce, hsm⟩ := hs.comp (a := p) (b := q) (by omega) (by omega) (by rw [HNN.out]; exact hp) (by rw [HNN.out]; exact hq)
        refine (comp_ok b pb m' gs.length p q wr hL'.mtr hL'.inv).mono ?_
        have hI := comp_inv hL'.inv gs.length p q
        rw [hce] at hI ⊢
        rintro e w' ⟨h1, h2, h3⟩
        exact ⟨h1, _, hL'.step h2 hI h3, hsm⟩
      have boxx : ∀ wr, OrdRel w W P A c n cap b pb (m.at_ gs.length) gs.length wr → wr.cell? ⟨w.heap.size, 2, none⟩ = some (.slice A n cap) := fun wr ⟨m', hL', _⟩ => hL'.box.cell rfl
      have outx : ∀ wr, OrdRel w W P A c n cap b pb (m.at_ gs.length) gs.length wr → Only [] w wr := fun wr ⟨m', hL', _⟩ => hL'.only
      have CMP := hide cmpx
      have BOX := hide boxx
      have OUT := hide outx
      have hMc : (m.at_ gs.length).cfg.ok := by
        obtain ⟨m', _, hs⟩ := hst.out
        rw [← hs.at_]; show m'.cfg.ok; rw [hs.cfg]; exact HOK.out
      clear cmpx boxx outx
      generalize m.at_ (gs.length : Int) = M at *
      have anti : ∀ p q, M.rel gs.length q p = - M.rel gs.length p q := fun p q => cmpv_anti (bud_nn hMc _) (bud_nn hMc _)
      have self_ : ∀ p, M.rel gs.length p p = 0 := fun p => cmpv_self (bud_nn hMc _)
      have trans_ : ∀ p q r, M.rel gs.length p q ≤ 0 → M.rel gs.length q r ≤ 0 → M.rel gs.length p r ≤ 0 := fun p q r => cmpv_trans (bud_nn hMc _) (bud_nn hMc _) (bud_nn hMc _)
      have bd : ∀ p q, -1 ≤ M.rel gs.length p q ∧ M.rel gs.length p q ≤ 1 := fun p q => by unfold Mtr.rel cmpv; (repeat' split) <;> omega
      have ANTI := hide anti
      have SELF := hide self_
      have TRANS := hide trans_
      have BD := hide bd
      clear anti self_ trans_ bd hMc
      go_wp2
      go_loopw [9] (fun i wr => ∃ k : Nat, k ≤ n ∧ i = .int .i64 k ∧ OrdRel w W P A c n cap b pb M gs.length wr) (fun i _ => n - (intOf i).toNat)
      case atStart => exact ⟨0, Nat.zero_le _, rfl, hst.out⟩
      case round =>
        obtain ⟨p, hp, rfl, hr⟩ := hrel
        have x2 := BOX.out _ hr
        have HR1 := hide hr
        clear hst hr
        rcases Nat.lt_or_ge p n with hlt | hge
        · go_wp2
          clear x2
          go_loopw [10] (fun i wr => ∃ k : Nat, k ≤ n ∧ i = .int .i64 k ∧ OrdRel w W P A c n cap b pb M gs.length wr) (fun i _ => n - (intOf i).toNat)
          case atStart => exact ⟨0, Nat.zero_le _, rfl, HR1.out⟩
          case round =>
            obtain ⟨q, hq, rfl, hr⟩ := hrel
            have x2 := BOX.out _ hr
            have HR2 := hide hr
            clear HR1 hr
            rcases Nat.lt_or_ge q n with hlq | hgq
            · have k1 := fun wr h => CMP.out wr p q hlt hlq h
              have k2 := fun wr h => CMP.out wr q p hlq hlt h
              simp only [ANTI.out p q] at k2
              have hbd := BD.out p q
              have hself := SELF.out p
              have ht : ∀ r, r < n → ∃ Z V : Int, (M.rel gs.length p q ≤ 0 → Z ≤ 0 → V ≤ 0) ∧
                  (∀ wr, OrdRel w W P A c n cap b pb M gs.length wr → Calls Try.prog 15 #[.pointer (some ⟨b, 0, none⟩), I64 gs.length, I64 q, I64 r] wr
                    fun e w' => e = .returned (.tuple #[I64 Z, I64 0]) ∧ OrdRel w W P A c n cap b pb M gs.length w') ∧
                  (∀ wr, OrdRel w W P A c n cap b pb M gs.length wr → Calls Try.prog 15 #[.pointer (some ⟨b, 0, none⟩), I64 gs.length, I64 p, I64 r] wr
                    fun e w' => e = .returned (.tuple #[I64 V, I64 0]) ∧ OrdRel w W P A c n cap b pb M gs.length w') :=
                fun r hr => ⟨_, _, TRANS.out p q r, fun wr h => CMP.out wr q r hlq hr h, fun wr h => CMP.out wr p r hlt hr h⟩
              have heq : p = q → M.rel gs.length p q = 0 := fun e => by rw [← e]; exact hself
              clear hself
              generalize M.rel (gs.length : Int) p q = X at k1 k2 hbd ht heq
              have K1 := hide k1
              have K2 := hide k2
              have HT := hide ht
              clear k1 k2 ht
              have hpq : (((p : Int) == (q : Int)) = false) ∨ (p = q ∧ X = 0) := by
                by_cases e : p = q
                · exact .inr ⟨e, heq e⟩
                · left; simp; omega
              clear heq
              rcases hpq with e | ⟨e, rfl⟩
              all_goals
                try subst e
                go_wp2_with fail
                refine (K1.out _ HR2.out).mono ?_
                rintro e w2 ⟨rfl, hr2⟩
                have HR3 := hide hr2
                clear hr2
                go_wp2_with fail
                refine (K2.out _ HR3.out).mono ?_
                rintro e w3 ⟨rfl, hr3⟩
                have x3 := BOX.out _ hr3
                have HR4 := hide hr3
                clear hr3 x2
                go_wp2
                clear x3
                go_loopw [15] (fun i wr => ∃ k : Nat, k ≤ n ∧ i = .int .i64 k ∧ OrdRel w W P A c n cap b pb M gs.length wr) (fun i _ => n - (intOf i).toNat)
                case atStart => exact ⟨0, Nat.zero_le _, rfl, HR4.out⟩
                case round =>
                  obtain ⟨r, hr_, rfl, hr⟩ := hrel
                  have x2 := BOX.out _ hr
                  have HR5 := hide hr
                  clear hr HR4 HR3 HR2
                  rcases Nat.lt_or_ge r n with hlr | hgr
                  · obtain ⟨Z, V, hz, k3, k4⟩ := HT.out r hlr
                    have K3 := hide k3
                    have K4 := hide k4
                    have hcase : Hid (∀ (x : Int), x ≤ 0 → Z ≤ 0 → V ≤ 0) ∨ True := .inr trivial
                    clear hcase k3 k4
                    go_wp2_with fail
                    refine (K3.out _ HR5.out).mono ?_
                    rintro e w4 ⟨rfl, hr4⟩
                    have HR6 := hide hr4
                    clear hr4 x2
                    go_wp2_with fail
                    refine (K4.out _ HR6.out).mono ?_
                    rintro e w5 ⟨rfl, hr5⟩
                    have HR7 := hide hr5
                    clear hr5
                    go_wp2
                    all_goals first
                      | (go_roundw
                         case rel => exact ⟨r + 1, by omega, by go_num, HR7.out⟩
                         case measure => simp [intOf]; omega)
                      | (exfalso; omega)
                  · obtain rfl : r = n := by omega
                    go_wp2
                    go_roundw
                    case rel => first | exact ⟨q + 1, by omega, by go_num, HR5.out⟩ | exact ⟨p + 1, by omega, by go_num, HR5.out⟩
                    case measure => simp [intOf]; omega
            · obtain rfl : q = n := by omega
              go_wp2
              go_roundw
              case rel => exact ⟨p + 1, by omega, by go_num, HR2.out⟩
              case measure => simp [intOf]; omega
        · obtain rfl : p = n := by omega
          go_wp2_with fail
          refine (awake_ok _).mono ?_
          rintro e w2 ⟨rfl, ho2⟩
          go_wp2
          go_ret
          exact ⟨rfl, (OUT.out _ HR1.out).trans ho2⟩

end Go.Proofs.Ytpeaojkbfllakaa
