/- The law PartitionForgets, walked. -/
import Derived.Test.YtpeaojkbfllakaaLawA
namespace Go.Proofs.Ytpeaojkbfllakaa
open Go.RowKit

/-- The charges in the window of the parts below q. -/
def Mtr.tot (m : Mtr) (q : Nat) : Int := cnt m.l (fun x => decide (x.p < q) && (decide (m.now - m.cfg.W < x.t) && decide (x.t < m.now)))
theorem Mtr.tot_zero (m : Mtr) : m.tot 0 = 0 := cnt_zero fun x _ => by simp
theorem Mtr.tot_succ (m : Mtr) (q : Nat) : m.tot (q + 1) = m.tot q + m.sumv q false := by
  refine cnt_add (fun x _ => ?_) (fun x _ => ?_)
  · rw [Bool.eq_iff_iff]; simp [inw]; omega
  · simp [inw]; omega
theorem Mtr.Inv.tot_le {m : Mtr} (h : m.Inv) (q : Nat) : 0 ≤ m.tot q ∧ m.tot q ≤ 7992 ∧ m.tot q ≤ m.cfg.W * m.cfg.P := by
  have h1 := h.total
  have h2 := wp_bound h.cfg.2.1 h.cfg.2.2.2.1 h.cfg.1
  have h3 : m.tot q ≤ cnt m.l (fun x => decide (m.now - m.cfg.W < x.t) && decide (x.t < m.now)) := cnt_le fun x _ hx => by
    simp at hx ⊢; omega
  have h4 : ((m.cfg.W : Int) - 1) * m.cfg.P = m.cfg.W * m.cfg.P - m.cfg.P := by rw [Int.sub_mul]; omega
  exact ⟨cnt_nonneg _ _, by omega, by omega⟩
theorem Mtr.crit_le (m : Mtr) (p : Nat) : m.sumv p true ≤ m.sumv p false := cnt_le fun x _ hx => by simp [inw] at hx ⊢; omega
theorem Mtr.Inv.gone {m : Mtr} (h : m.Inv) {now : Int} (hn : m.now + m.cfg.W ≤ now) (p : Nat) (cr : Bool) : (m.at_ now).sumv p cr = 0 := h.jump_sum (by omega) p cr

theorem used_law {w wr : World} {W P : Int} {A : Option Addr} {n cap b pb : Nat} {m : Mtr} (L : Law w wr W P A n cap b pb m) {now : Int} {p : Nat} (he : m.err now [(p : Int)] = 0) :
    Calls Try.prog 11 #[.pointer (some ⟨b, 0, none⟩), I64 now, I64 p] wr
      fun e w' => e = .returned (.tuple #[I64 ((m.at_ now).sumv p false), I64 0]) ∧ Law w w' W P A n cap b pb (m.at_ now) :=
  (used_yes b pb m now p wr L.mtr L.inv he).mono fun _ _ ⟨h1, h2, h3⟩ => ⟨h1, L.step h2 (L.inv.at_ (Mtr.err_zero he).2.2.1 (Mtr.err_zero he).2.1) h3⟩
theorem usedc_law {w wr : World} {W P : Int} {A : Option Addr} {n cap b pb : Nat} {m : Mtr} (L : Law w wr W P A n cap b pb m) {now : Int} {p : Nat} (he : m.err now [(p : Int)] = 0) :
    Calls Try.prog 12 #[.pointer (some ⟨b, 0, none⟩), I64 now, I64 p] wr
      fun e w' => e = .returned (.tuple #[I64 ((m.at_ now).sumv p true), I64 0]) ∧ Law w w' W P A n cap b pb (m.at_ now) :=
  (usedc_yes b pb m now p wr L.mtr L.inv he).mono fun _ _ ⟨h1, h2, h3⟩ => ⟨h1, L.step h2 (L.inv.at_ (Mtr.err_zero he).2.2.1 (Mtr.err_zero he).2.1) h3⟩

/-- Before charge k: the meter stands at the tick of the charge before. -/
structure Fg (c : Cfg) (k : Nat) (m : Mtr) : Prop where
  cfg : m.cfg = c
  now : m.now = ((k - 1) / 2 : Nat)
  free : k % 2 = 0 → m.tickv ((k / 2 : Nat) : Int) = 0
theorem Fg.next {c : Cfg} {k : Nat} {m : Mtr} (h : Fg c k m) (hI : m.Inv) (hk : k ≤ 200) (p : Int) (cr : Bool) (hp : 0 ≤ p ∧ p < c.parts.length) :
    (m.charge ((k / 2 : Nat) : Int) p cr).1.cfg = c ∧ (m.charge ((k / 2 : Nat) : Int) p cr).1.now = ((k / 2 : Nat) : Int) ∧ ((m.charge ((k / 2 : Nat) : Int) p cr).2 = 0 ∨ (k - 1) / 2 = k / 2 ∧ (m.charge ((k / 2 : Nat) : Int) p cr).2 = 18) := by
  have hn := h.now
  have he : m.err ((k / 2 : Nat) : Int) [p] = 0 := err_ok (by omega) (by omega) (by omega) (by rw [h.cfg]; simpa using hp)
  unfold Mtr.charge
  rw [if_neg (by simpa using he)]
  by_cases ht : (m.cfg.P : Int) ≤ m.tickv ((k / 2 : Nat) : Int)
  · rw [if_pos ht]
    have : k % 2 ≠ 0 := fun e => by have := h.free e; have := hI.cfg.2.2.1; omega
    exact ⟨h.cfg, by show m.now = _; omega, .inr ⟨by omega, rfl⟩⟩
  · rw [if_neg ht]
    exact ⟨h.cfg, rfl, .inl rfl⟩
theorem Fg.of_next {c : Cfg} {k : Nat} {m : Mtr} (hI : m.Inv) (h1 : m.cfg = c) (h2 : m.now = ((k / 2 : Nat) : Int)) : Fg c (k + 1) m :=
  ⟨h1, by rw [h2]; simp, fun e => hI.tick_later (by omega)⟩

def FgRel (w : World) (A : Option Addr) (c : Cfg) (n cap b pb : Nat) (k : Nat) (last : Value) (wr : World) : Prop :=
  ∃ m, Law w wr c.W c.P A n cap b pb m ∧ Fg c k m ∧ last = I64 ((k - 1) / 2 : Nat)
def FgIn (w : World) (A : Option Addr) (c : Cfg) (n cap b pb : Nat) (m : Mtr) (q : Nat) (sum : Value) (wr : World) : Prop :=
  Law w wr c.W c.P A n cap b pb m ∧ sum = I64 (m.tot q)
def FgEnd (w : World) (A : Option Addr) (c : Cfg) (n cap b pb : Nat) (T : Int) (wr : World) : Prop :=
  ∃ m, Law w wr c.W c.P A n cap b pb m ∧ m.cfg = c ∧ m.now ≤ T ∧ ∀ x ∈ m.l, x.t ≤ T - c.W

set_option maxRecDepth 100000 in
set_option maxHeartbeats 8000000 in
theorem forgets_good (W P : Int) (A : Option Addr) (l : List (Int × Int)) (cap : Nat) (A2 : Option Addr) (gs : List Nat) (cap2 : Nat) (w : World) (hA : PartsIn w w.heap.size A l) (hcap : l.length ≤ cap) (hc : chk W P l = 0)
    (h2 : gs.length ≤ 200) (hg8 : ∀ x ∈ gs, x ≤ 255) (hR : Reads w w.heap.size .u8 A2 (gs.map fun (x : Nat) => (x : Int))) :
    Calls Try.prog 3 #[.agg #[I64 W, I64 P, .slice A l.length cap], .slice A2 gs.length cap2] w fun e w' => e = .returned (.bool true) ∧ Only [] w w' := by
  obtain ⟨hok, hW, hP⟩ := chk_zero hc
  have ho := (Only.refl [] w).alloc (.cells #[I64 W, I64 P, .slice A l.length cap] 24)
  have hn := hide (new_yes W P A l cap _ w.heap.size (hA.only ho (Nat.le_refl _)) ho.size hcap hc)
  obtain ⟨c, hcc⟩ : ∃ c : Cfg, c = ⟨W.toNat, P.toNat, l⟩ := ⟨_, rfl⟩
  have hlc : l = c.parts := by rw [hcc]
  have hWc : W = (c.W : Int) := by rw [hcc]; exact hW.symm
  have hPc : P = (c.P : Int) := by rw [hcc]; exact hP.symm
  have hok' : c.ok := by rw [hcc]; exact hok
  rw [← hcc] at hn
  have hl1 := hok'.2.2.2.2.1
  have hl8 := hok'.2.2.2.2.2.1
  have hw0 := hok'.1
  have hw1 := hok'.2.1
  have hp0 := hok'.2.2.1
  have hp1 := hok'.2.2.2.1
  have HOK := hide hok'
  have HR := hide hR
  clear hA hc hok hW hP hR hok' hcc ho
  subst hlc hWc hPc
  generalize hnn : c.parts.length = n at *
  have HNN := hide hnn
  clear hnn
  have ho := (Only.refl [] w).alloc (.cells #[I64 c.W, I64 c.P, .slice A n cap] 24)
  have hbx := Blk.new w 24 [I64 c.W, I64 c.P, .slice A n cap]
  have e0 := hbx.cell (i := 0) rfl
  have e1 := hbx.cell (i := 1) rfl
  have e2 := hbx.cell (i := 2) rfl
  have HO := hide ho
  have HBX := hide hbx
  have hwp : 0 ≤ (c.W : Int) * c.P ∧ (c.W : Int) * c.P ≤ 8000 := by
    refine ⟨Int.mul_nonneg (by omega) (by omega), ?_⟩
    have : (c.W : Int) * c.P ≤ 1000 * 8 := Int.mul_le_mul (by omega) (by omega) (by omega) (by omega)
    omega
  obtain ⟨hwp0, hwp1⟩ := hwp
  clear ho hbx
  go_enter Try.func3, Try.ntmps3
  go_wp2_with fail
  refine hn.out.mono ?_
  rintro e w1 ⟨b, pb, rfl, hm1, hbb, _, ho1⟩
  have hst := hide (show FgRel w A c n cap b pb 0 (I64 0) w1 from ⟨_, ⟨HO.out.trans ho1, ho1.blk HBX.out (by simp), hm1, Mtr.Inv.new HOK.out, by simp at hbb; omega⟩, ⟨rfl, rfl, fun _ => rfl⟩, rfl⟩)
  clear hm1 hbb ho1 HO HBX e0 e1 e2
  go_wp2
  go_loopw [7, 8] (fun la i wr => ∃ k : Nat, k ≤ gs.length ∧ i = .int .i64 k ∧ FgRel w A c n cap b pb k la wr) (fun _ i _ => gs.length - (intOf i).toNat)
  case atStart => exact ⟨0, Nat.zero_le _, rfl, hst.out⟩
  case round =>
    obtain ⟨k, hk, rfl, m, hL, hF, rfl⟩ := hrel
    clear hst
    have HL := hide hL
    have HF := hide hF
    have x2 := hL.box.cell (i := 2) rfl
    have x0 := hL.box.cell (i := 0) rfl
    have x1 := hL.box.cell (i := 1) rfl
    rcases Nat.lt_or_ge k gs.length with hlt | hge
    · obtain ⟨g, hg⟩ : ∃ x, gs[k]? = some x := ⟨_, List.getElem?_eq_getElem hlt⟩
      have hg255 : g ≤ 255 := hg8 g (List.mem_of_getElem? hg)
      obtain ⟨ab, ao, rfl, hab, hcell⟩ := (HR.out.only hL.only (Nat.le_refl _) (by simp)) k (g : Int) (by simp [hg])
      have hl0 : 0 < n := by omega
      have hm0 : (0 : Int) ≤ (g : Int) % n := Int.emod_nonneg _ (by omega)
      have hm1 : (g : Int) % n < n := Int.emod_lt_of_pos _ (by omega)
      have hdiv : ((k : Int) / 2) = ((k / 2 : Nat) : Int) := by omega
      have HDIV := hide hdiv
      have hq0 : (0 : Int) ≤ (k : Int) / 2 := by omega
      have hq1 : (k : Int) / 2 ≤ 100 := by omega
      have hch := fun w' hm => hide (charge_ok b pb m ((k / 2 : Nat) : Int) ((g : Int) % n) (decide ((127 : Int) < g)) w' hm hL.inv)
      have hnx := hF.next hL.inv (by omega) ((g : Int) % n) (decide ((127 : Int) < g)) ⟨hm0, by rw [HNN.out]; exact hm1⟩
      have hcI := charge_inv hL.inv ((k / 2 : Nat) : Int) ((g : Int) % n) (decide ((127 : Int) < g))
      rw [← hdiv] at hch hnx hcI
      generalize hmc : m.charge ((k : Int) / 2) ((g : Int) % n) (decide ((127 : Int) < g)) = MC at hch hnx hcI
      obtain ⟨m', ec⟩ := MC
      dsimp only at hch hnx hcI
      obtain ⟨hx1, hx2, hx3⟩ := hnx
      have HI := hide hcI
      have HX1 := hide hx1
      have HX2 := hide hx2
      have hsame : Hid (m'.at_ ((k : Int) / 2) = m') := hide (by rw [← hx2]; rfl)
      have herr : Hid (∀ q : Nat, q < n → m'.err ((k : Int) / 2) [(q : Int)] = 0) := hide fun q hq => err_ok hq0 (by omega) (by omega) (by rw [hx1, HNN.out]; simp; omega)
      have hlast : ec = 0 ∨ (Hid ((k - 1) / 2 = k / 2) ∧ ec = 18) := by
        rcases hx3 with h | ⟨h1, h2⟩
        · exact .inl h
        · exact .inr ⟨hide h1, h2⟩
      clear hL hF hg hdiv hmc hcI hx1 hx2 hx3
      go_wp2
      refine wp_region_text 16 [] [] [] (fun _ => True) (by kernel_rfl) (by kernel_rfl) trivial ?_
      simp only [List.take_succ_cons, List.take_zero, List.drop_succ_cons, List.drop_zero]
      repeat (first | ((refine wpText_h rfl rfl ?_; apply Exists.intro; refine ⟨?_, ?_⟩; next => (go_simp; (try (go_bits; go_simp)); (first | done | with_reducible rfl | (rw [if_neg (by omega)]; (try (go_bits; go_simp)); (first | done | with_reducible rfl)) | (rw [if_pos (by omega)]; (try (go_bits; go_simp)); (first | done | with_reducible rfl))))); (try simp only [Act.put, List.setIfInBounds_toArray, List.set_cons_zero, List.set_cons_succ])) | ((refine wpText_p rfl rfl ?_; apply Exists.intro; refine ⟨?_, ?_⟩; next => (intro w'; go_simp; (try (go_bits; go_simp)); (first | done | with_reducible rfl | (rw [if_neg (by omega)]; (try (go_bits; go_simp)); (first | done | with_reducible rfl)) | (rw [if_pos (by omega)]; (try (go_bits; go_simp)); (first | done | with_reducible rfl))))); (try simp only [Act.put, List.setIfInBounds_toArray, List.set_cons_zero, List.set_cons_succ])) | ((refine wpText_y rfl rfl ?_; apply Exists.intro; refine ⟨?_, ?_⟩; next => (intro w' hS; (first | obtain ⟨_, rfl⟩ := hS | skip); go_simp; (try (go_bits; go_simp)); (first | done | with_reducible rfl | (rw [if_neg (by omega)]; (try (go_bits; go_simp)); (first | done | with_reducible rfl)) | (rw [if_pos (by omega)]; (try (go_bits; go_simp)); (first | done | with_reducible rfl))))); (try simp only [Act.put, List.setIfInBounds_toArray, List.set_cons_zero, List.set_cons_succ])) | (refine wpText_skip (by first | exact .inl rfl | exact .inr (.inl rfl) | exact .inr (.inr rfl)) rfl ?_; (try simp only [Act.put, List.setIfInBounds_toArray, List.set_cons_zero, List.set_cons_succ])))
      refine wpText_nil ?_
      go_wp2_with fail
      refine (hch _ (HL.out.drewN 1).mtr).out.mono ?_
      rintro e w2 ⟨rfl, hm2, ho2⟩
      have HN := hide ((HL.out.drewN 1).step hm2 HI.out ho2)
      have y0 := HN.out.box.cell (i := 0) rfl
      have y1 := HN.out.box.cell (i := 1) rfl
      have y2 := HN.out.box.cell (i := 2) rfl
      clear hm2 ho2 x0 x1 x2
      go_wp2
      refine NoX.normal ?_
      rcases hlast with rfl | ⟨HLA, rfl⟩
      all_goals
        go_wp2
        go_loopw [10, 11] (fun sm q wr => ∃ j : Nat, j ≤ n ∧ q = .int .i64 j ∧ FgIn w A c n cap b pb m' j sm wr) (fun _ q _ => n - (intOf q).toNat)
        case atStart => exact ⟨0, Nat.zero_le _, rfl, HN.out, by rw [Mtr.tot_zero]⟩
        case round =>
          obtain ⟨j, hj, rfl, hLj, rfl⟩ := hrel
          have HLJ := hide hLj
          have z2 := hLj.box.cell (i := 2) rfl
          have z1 := hLj.box.cell (i := 1) rfl
          have z0 := hLj.box.cell (i := 0) rfl
          obtain ⟨tb0, tb1, tb2⟩ := hLj.inv.tot_le j
          obtain ⟨sb0, sb1⟩ := hLj.inv.sum_bd j false
          have scr := m'.crit_le j
          have hts := hide (m'.tot_succ j)
          rw [HX1.out] at tb2
          clear hLj
          rcases Nat.lt_or_ge j n with hlj | hgj
          · have k1 := hide (used_law HLJ.out (herr.out j hlj))
            rw [hsame.out] at k1
            have k2 : ∀ wr', Law w wr' c.W c.P A n cap b pb m' → Calls Try.prog 12 #[.pointer (some ⟨b, 0, none⟩), I64 ((k : Int) / 2), I64 j] wr'
                fun e w' => e = .returned (.tuple #[I64 (m'.sumv j true), I64 0]) ∧ Law w w' c.W c.P A n cap b pb m' := fun wr' h => by
              have := usedc_law h (herr.out j hlj); rw [hsame.out] at this; exact this
            have K2 := hide k2
            clear k2
            generalize m'.sumv j false = V at *
            generalize m'.sumv j true = Cv at *
            have hcv : decide (V < Cv) = false := by simp; omega
            go_wp2_with fail
            refine k1.out.mono ?_
            rintro e w3 ⟨rfl, hL3⟩
            have HL3 := hide hL3
            clear hL3
            go_wp2_with fail
            refine (K2.out _ HL3.out).mono ?_
            rintro e w4 ⟨rfl, hL4⟩
            have HL4 := hide hL4
            clear hL4
            go_wp2
            go_roundw
            case rel =>
              first
              | exact ⟨j + 1, by omega, by go_num, HL4.out, by rw [hts.out]⟩
              | ((repeat apply Exists.intro); exact ⟨⟨j + 1, by omega, by go_num, HL4.out, by rw [hts.out]⟩, rfl⟩)
            case measure => simp [intOf]; omega
          · obtain rfl : j = n := by omega
            have hdd : decide ((c.W : Int) * c.P < m'.tot j) = false := by simp; omega
            go_wp2
            go_roundw
            case rel =>
              refine ⟨k + 1, by omega, by go_num, m', HLJ.out, Fg.of_next HI.out HX1.out (HX2.out.trans HDIV.out), ?_⟩
              first
              | (rw [HDIV.out]; simp; done)
              | (have := HLA.out; simp; omega)
            case measure => simp [intOf]; omega
    · obtain rfl : k = gs.length := by omega
      have hend : Hid (FgEnd w A c n cap b pb (((gs.length - 1) / 2 : Nat) + 1 + c.W) wr) := hide ⟨m, hL, hF.cfg, by rw [hF.now]; omega, fun x hx => by
        have := (hL.inv.times x hx).2; rw [hF.now] at this; omega⟩
      have hT : ∃ T : Int, T = ((gs.length - 1) / 2 : Nat) + 1 + c.W ∧ 0 ≤ T ∧ T ≤ 5000 := ⟨_, rfl, by omega, by omega⟩
      have hla : ∃ la : Int, la = ((gs.length - 1) / 2 : Nat) ∧ 0 ≤ la ∧ la ≤ 100 := ⟨_, rfl, by omega, by omega⟩
      obtain ⟨la, hla, la0, la1⟩ := hla
      rw [← hla] at hend ⊢
      clear hT hL hF HL HF hla x0 x1 x2
      go_wp2
      go_loopw [16] (fun i wr => ∃ k : Nat, k ≤ n ∧ i = .int .i64 k ∧ FgEnd w A c n cap b pb (la + 1 + c.W) wr) (fun i _ => n - (intOf i).toNat)
      case atStart => exact ⟨0, Nat.zero_le _, rfl, hend.out⟩
      case round =>
        obtain ⟨j, hj, rfl, m', hL', hc', hn', ht'⟩ := hrel
        have HL' := hide hL'
        have z2 := hL'.box.cell (i := 2) rfl
        have z1 := hL'.box.cell (i := 1) rfl
        have z0 := hL'.box.cell (i := 0) rfl
        have HC' := hide hc'
        have HT' := hide ht'
        clear hL' hc' ht' hend
        rcases Nat.lt_or_ge j n with hlj | hgj
        · have he : m'.err (la + 1 + c.W) [(j : Int)] = 0 := err_ok (by omega) (by omega) hn' (by rw [HC'.out, HNN.out]; simp; omega)
          have hz : (m'.at_ (la + 1 + c.W)).sumv j false = 0 := cnt_zero fun x hx => by
            have := HT'.out x hx
            show inw j false (la + 1 + c.W - m'.cfg.W) (la + 1 + c.W) x = false
            rw [HC'.out]
            have e : ¬ (la + 1 + (c.W : Int) - c.W < x.t) := by omega
            have e' : decide (la + 1 + (c.W : Int) - c.W < x.t) = false := decide_eq_false e
            unfold inw
            rw [e']; simp
          have k1 := hide (used_law HL'.out he)
          rw [hz] at k1
          clear he hz
          go_wp2_with fail
          refine k1.out.mono ?_
          rintro e w3 ⟨rfl, hL3⟩
          have HL3 := hide hL3
          clear hL3
          go_wp2
          go_roundw
          case rel => exact ⟨j + 1, by omega, by go_num, _, HL3.out, HC'.out, by show la + 1 + (c.W : Int) ≤ _; omega, HT'.out⟩
          case measure => simp [intOf]; omega
        · obtain rfl : j = n := by omega
          go_wp2_with fail
          refine (awake_ok _).mono ?_
          rintro e w2 ⟨rfl, ho2⟩
          go_wp2
          go_ret
          exact ⟨rfl, HL'.out.only.trans ho2⟩

end Go.Proofs.Ytpeaojkbfllakaa
