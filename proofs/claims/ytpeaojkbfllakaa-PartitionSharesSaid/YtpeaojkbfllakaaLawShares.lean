/- The law PartitionShares, walked. -/
import Derived.Test.YtpeaojkbfllakaaLawA
namespace Go.Proofs.Ytpeaojkbfllakaa
open Go.RowKit

section
variable {w wr : World} {W P : Int} {A : Option Addr} {n cap b pb : Nat} {m : Mtr}
theorem used_law' (L : Law w wr W P A n cap b pb m) {now : Int} {p : Nat} (he : m.err now [(p : Int)] = 0) :
    Calls Try.prog 11 #[.pointer (some ⟨b, 0, none⟩), I64 now, I64 p] wr
      fun e w' => e = .returned (.tuple #[I64 ((m.at_ now).sumv p false), I64 0]) ∧ Law w w' W P A n cap b pb (m.at_ now) :=
  (used_yes b pb m now p wr L.mtr L.inv he).mono fun _ _ ⟨h1, h2, h3⟩ => ⟨h1, L.step h2 (L.inv.at_ (Mtr.err_zero he).2.2.1 (Mtr.err_zero he).2.1) h3⟩
theorem has_law (L : Law w wr W P A n cap b pb m) {now : Int} {p : Nat} (he : m.err now [(p : Int)] = 0) :
    Calls Try.prog 13 #[.pointer (some ⟨b, 0, none⟩), I64 now, I64 p] wr
      fun e w' => e = .returned (.tuple #[.bool (decide ((m.at_ now).sumv p false < m.cfg.bud (m.cfg.share p).1)), I64 0]) ∧ Law w w' W P A n cap b pb (m.at_ now) := by
  have h := has_ok b pb m now p wr L.mtr L.inv
  rw [has_eq he] at h
  exact h.mono fun _ _ ⟨h1, h2, h3⟩ => ⟨by simpa using h1, L.step h2 (L.inv.at_ (Mtr.err_zero he).2.2.1 (Mtr.err_zero he).2.1) h3⟩
theorem charge_law (L : Law w wr W P A n cap b pb m) {now : Int} {p : Nat} (he : m.err now [(p : Int)] = 0) (ht : m.tickv now < m.cfg.P) :
    Calls Try.prog 10 #[.pointer (some ⟨b, 0, none⟩), I64 now, I64 p, .bool false] wr
      fun e w' => e = .returned (I64 0) ∧ Law w w' W P A n cap b pb (m.charged now p false) := by
  obtain ⟨t0, t1, t2, t3⟩ := Mtr.err_zero he
  have hp := t3 p (by simp)
  exact (charge_yes b pb m now p false wr L.mtr L.inv he ht).mono fun _ _ ⟨h1, h2, h3⟩ => ⟨h1, L.step h2 (L.inv.charged t2 t1 (by omega) ht) h3⟩
theorem budget_law (L : Law w wr W P A n cap b pb m) {p : Nat} (hp : p < m.cfg.parts.length) :
    Calls Try.prog 14 #[.pointer (some ⟨b, 0, none⟩), I64 p] wr
      fun e w' => e = .returned (.tuple #[I64 (m.cfg.bud (m.cfg.share p).1), I64 (m.cfg.bud (m.cfg.share p).2), I64 0]) ∧ Law w w' W P A n cap b pb m := by
  have h := budget_ok b pb m p wr L.mtr L.inv
  have e : m.budget p = (m.cfg.bud (m.cfg.share p).1, m.cfg.bud (m.cfg.share p).2, 0) := by unfold Mtr.budget; rw [if_neg (by omega)]; simp
  rw [e] at h
  exact h.mono fun _ _ ⟨h1, k, h2⟩ => ⟨h1, by rw [h2]; exact L.drewN k⟩
end

def ati (p : Nat) (i : Int) (x : Chg) : Bool := decide (x.p = p) && decide (x.t = i)

/-- In the tick i: ch charges so far; no partition beyond its bound. -/
structure Sh (c : Cfg) (i : Int) (ch : Nat) (m : Mtr) : Prop where
  cfg : m.cfg = c
  le : m.now ≤ i
  tick : m.tickv i = ch
  sum : ∀ p, p < c.parts.length → cnt m.l (inw p false (i - c.W) i) + cnt m.l (ati p i) ≤ c.bud (c.share p).1 + c.P - 1
theorem Sh.at_ {c : Cfg} {i : Int} {ch : Nat} {m : Mtr} (h : Sh c i ch m) : Sh c i ch (m.at_ i) := ⟨h.cfg, by show i ≤ i; omega, h.tick, h.sum⟩
theorem Sh.charged {c : Cfg} {i : Int} {ch : Nat} {m : Mtr} (h : Sh c i ch m) (hch : ch < c.P) {k : Nat} (hs : cnt m.l (inw k false (i - c.W) i) < c.bud (c.share k).1) : Sh c i (ch + 1) (m.charged i k false) := by
  refine ⟨h.cfg, by show i ≤ i; omega, ?_, fun p hp => ?_⟩
  · rw [charged_tick, h.tick]; rfl
  · show cnt (m.l ++ [⟨i, k, false⟩]) _ + cnt (m.l ++ [⟨i, k, false⟩]) _ ≤ _
    rw [cnt_append, cnt_append, cnt_cons, cnt_cons, cnt_nil]
    have e1 : inw p false (i - c.W) i ⟨i, k, false⟩ = false := by simp [inw]
    rw [e1]
    have h1 := h.sum p hp
    by_cases e : k = p
    · subst e
      have e2 : ati k i ⟨i, k, false⟩ = true := by simp [ati]
      rw [e2]
      have h2 : cnt m.l (ati k i) ≤ m.tickv i := cnt_le fun x _ hx => by simp [ati, att] at hx ⊢; exact hx.2
      rw [h.tick] at h2
      simp; omega
    · have e2 : ati p i ⟨i, k, false⟩ = false := by simp [ati, e]
      rw [e2]; simp; omega
theorem used_next {l : List Chg} {W : Nat} {p : Nat} {i : Int} : cnt l (inw p false (i + 1 - W) (i + 1)) ≤ cnt l (inw p false (i - W) i) + cnt l (ati p i) :=
  cnt_le_add fun x _ hx => by simp [inw, ati] at hx ⊢; omega

/-- Behind the charges of the tick i. -/
structure ShE (c : Cfg) (i : Int) (m : Mtr) : Prop where
  cfg : m.cfg = c
  le : m.now ≤ i + 1
  past : ∀ x ∈ m.l, x.t ≤ i
  sum : ∀ p, p < c.parts.length → cnt m.l (inw p false (i - c.W) i) + cnt m.l (ati p i) ≤ c.bud (c.share p).1 + c.P - 1
theorem Sh.ends {c : Cfg} {i : Int} {ch : Nat} {m : Mtr} (h : Sh c i ch m) (hI : m.Inv) : ShE c i m := ⟨h.cfg, by have := h.le; omega, fun x hx => by have := (hI.times x hx).2; have := h.le; omega, h.sum⟩
theorem ShE.at_ {c : Cfg} {i : Int} {m : Mtr} (h : ShE c i m) : ShE c i (m.at_ (i + 1)) := ⟨h.cfg, by show i + 1 ≤ i + 1; omega, h.past, h.sum⟩
theorem ShE.next {c : Cfg} {i : Int} {m : Mtr} (h : ShE c i m) : Sh c (i + 1) 0 m := by
  refine ⟨h.cfg, h.le, ?_, fun p hp => ?_⟩
  · exact cnt_zero fun x hx => by have := h.past x hx; simp [att]; omega
  · have h1 := h.sum p hp
    have h2 := used_next (l := m.l) (W := c.W) (p := p) (i := i)
    have h3 : cnt m.l (ati p (i + 1)) = 0 := cnt_zero fun x hx => by have := h.past x hx; simp [ati]; omega
    omega

def ShRel (w : World) (A : Option Addr) (c : Cfg) (n cap b pb : Nat) (i : Int) (ch : Nat) (wr : World) : Prop :=
  ∃ m, Law w wr c.W c.P A n cap b pb m ∧ Sh c i ch m
def ShIn (w : World) (A : Option Addr) (c : Cfg) (n cap b pb : Nat) (i : Int) (k : Nat) (hb : Bool) (ch : Nat) (wr : World) : Prop :=
  ∃ m, Law w wr c.W c.P A n cap b pb m ∧ Sh c i ch m ∧ m.now = i ∧ (hb = true → cnt m.l (inw k false (i - c.W) i) < c.bud (c.share k).1)
def ShEnd (w : World) (A : Option Addr) (c : Cfg) (n cap b pb : Nat) (i : Int) (wr : World) : Prop :=
  ∃ m, Law w wr c.W c.P A n cap b pb m ∧ ShE c i m

set_option maxRecDepth 100000 in
set_option maxHeartbeats 8000000 in
theorem shares_good (W P : Int) (A : Option Addr) (l : List (Int × Int)) (cap : Nat) (A2 : Option Addr) (gs : List Nat) (cap2 : Nat) (w : World) (hA : PartsIn w w.heap.size A l) (hcap : l.length ≤ cap) (hc : chk W P l = 0)
    (h2 : gs.length ≤ 300) (hg8 : ∀ x ∈ gs, x ≤ 255) (hR : Reads w w.heap.size .u8 A2 (gs.map fun (x : Nat) => (x : Int))) :
    Calls Try.prog 4 #[.agg #[I64 W, I64 P, .slice A l.length cap], .slice A2 gs.length cap2] w fun e w' => e = .returned (.bool true) ∧ Only [] w w' := by
  obtain ⟨hok, hW, hP⟩ := chk_zero hc
  have ho := (Only.refl [] w).alloc (.cells #[I64 W, I64 P, .slice A l.length cap] 24)
  have hn := hide (new_yes W P A l cap _ w.heap.size (hA.only ho (Nat.le_refl _)) ho.size hcap hc)
  obtain ⟨c, hcc⟩ : ∃ c : Cfg, c = ⟨W.toNat, P.toNat, l⟩ := ⟨_, rfl⟩
  have hlc : l = c.parts := by rw [hcc]
  have hWc : W = (c.W : Int) := by rw [hcc]; exact hW.symm
  have hPc : P = (c.P : Int) := by rw [hcc]; exact hP.symm
  have hok' : c.ok := by rw [hcc]; exact hok
  rw [← hcc] at hn
  have hl1 := hok'.2.2.2.2.1
  have hl8 := hok'.2.2.2.2.2.1
  have hw0 := hok'.1
  have hw1 := hok'.2.1
  have hp0 := hok'.2.2.1
  have hp1 := hok'.2.2.2.1
  have HOK := hide hok'
  have HR := hide hR
  clear hA hc hok hW hP hR hok' hcc ho
  subst hlc hWc hPc
  generalize hnn : c.parts.length = n at *
  have HNN := hide hnn
  clear hnn
  have ho := (Only.refl [] w).alloc (.cells #[I64 c.W, I64 c.P, .slice A n cap] 24)
  have hbx := Blk.new w 24 [I64 c.W, I64 c.P, .slice A n cap]
  have e0 := hbx.cell (i := 0) rfl
  have e1 := hbx.cell (i := 1) rfl
  have e2 := hbx.cell (i := 2) rfl
  have HO := hide ho
  have HBX := hide hbx
  clear ho hbx
  go_enter Try.func4, Try.ntmps4
  go_wp2_with fail
  refine hn.out.mono ?_
  rintro e w1 ⟨b, pb, rfl, hm1, hbb, _, ho1⟩
  have hst := hide (show ShRel w A c n cap b pb 0 0 w1 from ⟨_, ⟨HO.out.trans ho1, ho1.blk HBX.out (by simp), hm1, Mtr.Inv.new HOK.out, by simp at hbb; omega⟩, ⟨rfl, by simp [Mtr.new], rfl, fun p hp => by
    have := bud_bd HOK.out (HOK.out.share p).1.1 (HOK.out.share p).1.2
    show (0 : Int) + 0 ≤ _
    omega⟩⟩)
  clear hm1 hbb ho1 HO HBX e0 e1 e2
  go_wp2
  go_loopw [7] (fun i wr => ∃ k : Nat, k ≤ gs.length ∧ i = .int .i64 k ∧ ShRel w A c n cap b pb k 0 wr) (fun i _ => gs.length - (intOf i).toNat)
  case atStart => exact ⟨0, Nat.zero_le _, rfl, hst.out⟩
  case round =>
    obtain ⟨i, hi, rfl, hr⟩ := hrel
    clear hst
    have HR0 := hide hr
    have hout : Only [] w wr := by obtain ⟨m, hL, _⟩ := hr; exact hL.only
    rcases Nat.lt_or_ge i gs.length with hlt | hge
    · obtain ⟨g, hg⟩ : ∃ x, gs[i]? = some x := ⟨_, List.getElem?_eq_getElem hlt⟩
      have hg255 : g ≤ 255 := hg8 g (List.mem_of_getElem? hg)
      have hcellx : ∀ wr, Only [] w wr → ∃ b o, A2 = some ⟨b, o, none⟩ ∧ wr.cell? ⟨b, o + i, none⟩ = some (.int .u8 (g : Int)) := fun wr ho => by
        obtain ⟨ab, ao, h1, _, h2⟩ := (HR.out.only ho (Nat.le_refl _) (by simp)) i (g : Int) (by simp [hg])
        exact ⟨ab, ao, h1, h2⟩
      obtain ⟨ab, ao, rfl, _⟩ := hcellx wr hout
      have hcell : Hid (∀ wr, Only [] w wr → wr.cell? ⟨ab, ao + i, none⟩ = some (.int .u8 (g : Int))) := hide fun wr ho => by
        obtain ⟨b', o', h1, h2⟩ := hcellx wr ho
        injection h1 with h1
        injection h1 with h3 h4 _
        subst h3 h4
        exact h2
      clear hcellx hr hg hout
      go_wp2
      go_loopw [9, 10] (fun cc q wr => ∃ k ch : Nat, k ≤ n ∧ ch ≤ c.P ∧ q = .int .i64 k ∧ cc = .int .i64 ch ∧ ShRel w A c n cap b pb i ch wr) (fun _ q _ => n - (intOf q).toNat)
      case atStart => exact ⟨0, 0, Nat.zero_le _, Nat.zero_le _, rfl, rfl, HR0.out⟩
      case round =>
        obtain ⟨k, ch, hk, hch, rfl, rfl, m, hL, hS⟩ := hrel
        clear HR0
        have HL := hide hL
        have HS := hide hS
        have z1 := hL.box.cell (i := 1) rfl
        have z2 := hL.box.cell (i := 2) rfl
        have hle := hS.le
        clear hL hS
        rcases Nat.lt_or_ge k n with hlk | hgk
        · have he : m.err i [(k : Int)] = 0 := err_ok (by omega) (by omega) hle (by rw [HS.out.cfg, HNN.out]; simp; omega)
          have k1 := hide (has_law HL.out he)
          have hbv : Hid ((decide ((m.at_ i).sumv k false < m.cfg.bud (m.cfg.share k).1)) = true → cnt (m.at_ i).l (inw k false (i - c.W) i) < c.bud (c.share k).1) := hide fun h => by
            have := of_decide_eq_true h
            rw [← HS.out.cfg]; exact this
          generalize decide ((m.at_ i).sumv k false < m.cfg.bud (m.cfg.share k).1) = hb at k1 hbv
          clear he
          go_wp2_with fail
          refine k1.out.mono ?_
          rintro e w2 ⟨rfl, hL2⟩
          have hin : Hid (ShIn w A c n cap b pb i k hb ch w2) := hide ⟨_, hL2, HS.out.at_, rfl, hbv.out⟩
          clear hL2 z1 z2 HL HS hbv k1
          go_wp2
          go_loopw [9, 13] (fun cc q wr => ∃ nn ch : Nat, nn ≤ c.P ∧ ch ≤ c.P ∧ q = .int .i64 nn ∧ cc = .int .i64 ch ∧ ShIn w A c n cap b pb i k hb ch wr) (fun _ q _ => c.P - (intOf q).toNat)
          case atStart => exact ⟨0, ch, Nat.zero_le _, hch, rfl, rfl, hin.out⟩
          case round =>
            obtain ⟨nn, ch2, hnn, hch2, rfl, rfl, m2, hL2, hS2, hnow2, hhas⟩ := hrel
            have HL2 := hide hL2
            have HS2 := hide hS2
            have HH := hide hhas
            have HW := hide hnow2
            have z1 := hL2.box.cell (i := 1) rfl
            have z2 := hL2.box.cell (i := 2) rfl
            have hcl := hcell.out _ hL2.only
            have hle2 := hS2.le
            clear hL2 hS2 hhas hin hnow2
            by_cases hgo : nn < c.P ∧ ch2 < c.P ∧ hb = true
            · obtain ⟨g1, g2, rfl⟩ := hgo
              have he2 : m2.err i [(k : Int)] = 0 := err_ok (by omega) (by omega) hle2 (by rw [HS2.out.cfg, HNN.out]; simp; omega)
              have k2 := hide (charge_law HL2.out he2 (by rw [HS2.out.cfg, HS2.out.tick]; omega))
              have hS3 := hide (HS2.out.charged g2 (HH.out rfl))
              have hH3 : Hid (cnt (m2.charged i k false).l (inw k false (i - c.W) i) < c.bud (c.share k).1) := hide (by
                show cnt (m2.l ++ [⟨i, k, false⟩]) _ < _
                rw [cnt_append, cnt_cons, cnt_nil]
                have e1 : inw k false (i - c.W) i ⟨i, k, false⟩ = false := by simp [inw]
                rw [e1]
                have := HH.out rfl
                simp; omega)
              clear he2
              go_wp2_with fail
              all_goals first
              | (refine k2.out.mono ?_
                 rintro e w3 ⟨rfl, hL3⟩
                 have HL3 := hide hL3
                 clear hL3
                 go_wp2
                 go_roundw
                 case rel => exact ⟨nn + 1, ch2 + 1, by omega, by omega, by go_num, by go_num, _, HL3.out, hS3.out, rfl, fun _ => hH3.out⟩
                 case measure => simp [intOf]; omega)
              | (go_roundw
                 case rel => exact ⟨k + 1, ch2, by omega, hch2, by go_num, rfl, m2, HL2.out, HS2.out⟩
                 case measure => simp [intOf]; omega)
            · have hs : c.P ≤ nn ∨ (nn < c.P ∧ c.P ≤ ch2) ∨ (nn < c.P ∧ ch2 < c.P ∧ hb = false) := by
                rcases Nat.lt_or_ge nn c.P with a | a
                · rcases Nat.lt_or_ge ch2 c.P with d | d
                  · exact .inr (.inr ⟨a, d, by cases hb <;> simp_all⟩)
                  · exact .inr (.inl ⟨a, d⟩)
                · exact .inl a
              clear hgo
              rcases hs with a | ⟨a, d⟩ | ⟨a, d, rfl⟩
              all_goals
                 go_wp2
                 go_roundw
                 case rel => exact ⟨k + 1, ch2, by omega, hch2, by go_num, rfl, m2, HL2.out, HS2.out⟩
                 case measure => simp [intOf]; omega
        · obtain rfl : k = n := by omega
          have hend : Hid (ShEnd w A c k cap b pb i wr) := hide ⟨m, HL.out, HS.out.ends HL.out.inv⟩
          clear HL HS
          go_wp2
          go_loopw [14] (fun q wr => ∃ j : Nat, j ≤ k ∧ q = .int .i64 j ∧ ShEnd w A c k cap b pb i wr) (fun q _ => k - (intOf q).toNat)
          case atStart => exact ⟨0, Nat.zero_le _, rfl, hend.out⟩
          case round =>
            obtain ⟨j, hj, rfl, m3, hL3, hS3⟩ := hrel
            have HL3 := hide hL3
            have HS3 := hide hS3
            have y1 := hL3.box.cell (i := 1) rfl
            have y2 := hL3.box.cell (i := 2) rfl
            have hle3 := hS3.le
            clear hL3 hS3 z1 z2 hend
            rcases Nat.lt_or_ge j k with hlj | hgj
            · have he : m3.err (i + 1) [(j : Int)] = 0 := err_ok (by omega) (by omega) hle3 (by rw [HS3.out.cfg, HNN.out]; simp; omega)
              have k3 := hide (used_law' HL3.out he)
              have hU : (m3.at_ (i + 1)).sumv j false ≤ c.bud (c.share j).1 + c.P - 1 := by
                have h1 := HS3.out.sum j (by rw [HNN.out]; exact hlj)
                have h2 := used_next (l := m3.l) (W := c.W) (p := j) (i := (i : Int))
                have h3 : (m3.at_ (i + 1)).sumv j false = cnt m3.l (inw j false ((i : Int) + 1 - c.W) (i + 1)) := by rw [← HS3.out.cfg]; rfl
                omega
              have hUb := (HL3.out.inv.at_ hle3 (by omega)).sum_bd j false
              have k4 : ∀ wr', Law w wr' c.W c.P A k cap b pb (m3.at_ (i + 1)) → Calls Try.prog 14 #[.pointer (some ⟨b, 0, none⟩), I64 j] wr'
                  fun e w' => e = .returned (.tuple #[I64 (c.bud (c.share j).1), I64 (c.bud (c.share j).2), I64 0]) ∧ Law w w' c.W c.P A k cap b pb (m3.at_ (i + 1)) := fun wr' h => by
                have := budget_law h (p := j) (by show j < m3.cfg.parts.length; rw [HS3.out.cfg, HNN.out]; exact hlj)
                rw [show (m3.at_ (i + 1)).cfg = c from HS3.out.cfg] at this
                exact this
              have K4 := hide k4
              have hB := bud_bd HOK.out (HOK.out.share j).1.1 (HOK.out.share j).1.2
              obtain ⟨_, _, _, _, B0, B1⟩ := hB
              clear he k4
              generalize (m3.at_ (i + 1)).sumv j false = U at *
              generalize c.bud (c.share j).1 = B at *
              have hd : decide (B + c.P - 1 < U) = false := by simp; omega
              go_wp2_with fail
              refine k3.out.mono ?_
              rintro e w3 ⟨rfl, hL4⟩
              have HL4 := hide hL4
              clear hL4
              go_wp2_with fail
              refine (K4.out _ HL4.out).mono ?_
              rintro e w4 ⟨rfl, hL5⟩
              have HL5 := hide hL5
              have v1 := hL5.box.cell (i := 1) rfl
              clear hL5
              go_wp2
              go_roundw
              case rel => exact ⟨j + 1, by omega, by go_num, _, HL5.out, HS3.out.at_⟩
              case measure => simp [intOf]; omega
            · obtain rfl : j = k := by omega
              go_wp2
              go_roundw
              case rel => exact ⟨i + 1, by omega, by go_num, m3, HL3.out, HS3.out.next⟩
              case measure => simp [intOf]; omega
    · obtain rfl : i = gs.length := by omega
      clear hr
      go_wp2_with fail
      refine (awake_ok _).mono ?_
      rintro e w2 ⟨rfl, ho2⟩
      go_wp2
      go_ret
      exact ⟨rfl, hout.trans ho2⟩

end Go.Proofs.Ytpeaojkbfllakaa
