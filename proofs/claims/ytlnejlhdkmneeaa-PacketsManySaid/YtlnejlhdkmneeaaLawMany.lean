/- PacketsMany answers true. -/
import Derived.Test.YtlnejlhdkmneeaaLawRes
namespace Go.Proofs.Ytlnejlhdkmneeaa
open Go.RowKit

def InvM (l : List Ent) : Prop := l.length ≤ 200 ∧ ∀ x ∈ l, (0 ≤ x.a ∧ x.a < 4294967296) ∧ x.wt.length ≤ 4
theorem InvM.ok {l : List Ent} (h : InvM l) (a : Int) : EntOk l a := ⟨.inr h.1, fun x hx => (h.2 x hx).1⟩
theorem InvM.inE {l : List Ent} (h : InvM l) (a : Int) : (inE l a).wt.length ≤ 4 := by
  unfold Proofs.Ytlnejlhdkmneeaa.inE
  cases hg : getE l a with
  | none => simp [newE]
  | some x => exact (h.2 x (getE_some hg).1).2
theorem entL_200 {l : List Ent} (h : l.length ≤ 200) (a : Int) : (entL l a).length ≤ 200 := by
  cases hg : getE l a with
  | some x => rw [entL_some hg]; exact h
  | none =>
    by_cases h2 : l.length < 200
    · rw [entL_none hg h2, List.length_append]; simp; omega
    · rw [entL_full hg h2, List.length_append]
      have h3 : (rmOld l).length = l.length - 1 := by
        obtain ⟨y, hy, -⟩ := oldI_spec (l := l) (by intro hh; rw [hh] at h2; simp at h2)
        unfold rmOld
        rw [List.length_eraseIdx, if_pos (List.getElem?_eq_some_iff.1 hy).1]
      rw [h3]; simp; omega
theorem InvM.setE {l : List Ent} (h : InvM l) (a : Int) (ha : 0 ≤ a ∧ a < 4294967296) {y : Ent} (hy : (0 ≤ y.a ∧ y.a < 4294967296) ∧ y.wt.length ≤ 4) : InvM (setE (entL l a) y) := by
  refine ⟨by rw [setE_len]; exact entL_200 h.1 a, fun x hx => ?_⟩
  rcases mem_setE hx with rfl | ⟨hx, -⟩
  · exact hy
  · rcases mem_entL hx with hx | rfl
    · exact h.2 x hx
    · exact ⟨ha, by simp [newE]⟩
theorem InvM.learn {l : List Ent} (h : InvM l) (a hw now life clock : Int) (ha : 0 ≤ a ∧ a < 4294967296) : InvM (learnL l a hw now life clock).1 := by
  unfold learnL
  split
  · exact h
  · split
    · exact h
    · exact h.setE a ha (by simpa using ha)
theorem InvM.sub {l : List Ent} (h : InvM l) (a : Int) (p : Pkt) (now clock : Int) (ha : 0 ≤ a ∧ a < 4294967296) : InvM (subL l a p now clock).1 := by
  unfold subL
  split
  · exact h
  · split
    · exact h
    · split
      · exact h
      · refine h.setE a ha ⟨ha, ?_⟩
        have h1 := h.inE a
        unfold subE cutP
        dsimp only
        split
        · rw [List.length_drop, List.length_append]; simp; omega
        · omega

def pk0 : Pkt := ⟨0, 0, 0, 0, 0, 0, false, none, 0, []⟩
theorem build_pk0 : ∀ w : World, (Instr.build 30 #[]).run Try.prog w = .ok (.agg #[.int .u32 0, .int .u32 0, I64 0, I64 0, I64 0, I64 0, .bool false, .slice none 0 0]) w := fun _ => by kernel_rfl
theorem build_rpk0 : ∀ w : World, (Instr.build 45 #[]).run Try.prog w = .ok (.agg #[.int .u32 0, .int .u32 0, I64 0, I64 0, I64 0, I64 0, .bool false, .slice none 0 0]) w := fun _ => by kernel_rfl
theorem nums_nil (w : World) (A : Option Addr) : NumsIn w .u8 A [] := fun k x hx => by simp at hx

def AfterM (w0 : World) (q b y B2 : Nat) (wx : World) : Prop :=
  ∃ clock l m eb vb zs va, ResAt w0.heap.size q b m 1000 clock l eb vb wx ∧ RResAt B2 y 1000 clock l zs va wx ∧ Only [] w0 wx ∧ InvM l ∧ w0.heap.size ≤ B2 ∧ B2 ≤ wx.heap.size ∧ m ≤ 1000

def AfterK (w0 : World) (q b y B2 k : Nat) (wx : World) : Prop :=
  ∃ clock l m eb vb zs va, ResAt w0.heap.size q b m 1000 clock l eb vb wx ∧ RResAt B2 y 1000 clock l zs va wx ∧ Only [] w0 wx ∧ InvM l ∧ w0.heap.size ≤ B2 ∧ B2 ≤ wx.heap.size ∧ m ≤ k

set_option maxRecDepth 100000 in
set_option maxHeartbeats 64000000 in
theorem lawmany (A1 A2 : Option Addr) (n1 n2 c1 c2 : Nat) (l1 l2 : List Nat) (w : World) (hn1 : l1.length = n1) (hn2 : l2.length = n2) (h1 : ¬ 250 < n1) (h2 : ¬ 50 < n2) (hb1 : ∀ x ∈ l1, x ≤ 255) (hb2 : ∀ x ∈ l2, x ≤ 255) (hA1 : NumsIn w .u8 A1 l1) (hA2 : NumsIn w .u8 A2 l2) :
    Calls Try.prog 11 #[.slice A1 n1 c1, .slice A2 n2 c2] w fun e w' => e = .returned (.bool true) ∧ Only [] w w' := by
  have HN := hide (And.intro hn1 hn2)
  have HBB := hide (And.intro hb1 hb2)
  have HR := hide (And.intro hA1 hA2)
  have HL : Hid (¬ ((1000 : Int) < 1 ∨ (1099511627776 : Int) < 1000)) := hide (by omega)
  clear hn1 hn2 hb1 hb2 hA1 hA2
  go_enter Try.func11, Try.ntmps11
  go_wp2_with fail
  refine (newRes_ok 1000 _).mono ?_
  rintro e w1 h1x
  unfold NewResS at h1x
  rw [if_neg HL.out] at h1x
  obtain ⟨q, b, rfl, hx1, ho1⟩ := h1x
  have H1 := hide (And.intro hx1 ho1)
  clear ho1 hx1
  go_wp2_with fail
  refine (rnewRes_ok 1000 _).mono ?_
  rintro e w2 h2x
  unfold RNewResS at h2x
  rw [if_neg HL.out] at h2x
  obtain ⟨y, rfl, hy2, ho2⟩ := h2x
  have HT := hide (show AfterK w q b y w1.heap.size 0 w2 from ⟨_, _, _, _, _, _, _, H1.out.1.only ho2, hy2, Only.trans H1.out.2 ho2, ⟨by simp, by simp⟩, H1.out.2.size, ho2.size, Nat.le_refl _⟩)
  obtain ⟨B2, hB2⟩ : ∃ p, p = w1.heap.size := ⟨_, rfl⟩
  rw [← hB2] at HT
  clear hy2 ho2 H1 hB2
  go_wp2
  go_loopw [9, 50] (fun nn i wr => ∃ (k : Nat) (t : Int), k ≤ 250 ∧ i = .int .i64 k ∧ nn = .int .i64 t ∧ 0 ≤ t ∧ t ≤ 3 * k ∧ Hid (AfterK w q b y B2 k wr)) (fun _ i _ => 250 - (Go.RowKit.intOf i).toNat)
  case atStart => exact ⟨0, 0, Nat.zero_le _, rfl, rfl, by omega, by omega, HT⟩
  case round =>
    obtain ⟨k, t, hk, rfl, rfl, ht0, ht1, HW⟩ := hrel
    clear HT
    rcases Nat.lt_or_ge k 250 with hlt | hge
    · go_upto_if 56 with (fail)
      go_cut [9] (fun s wx => ∃ t2 : Int, s = .int .i64 t2 ∧ 0 ≤ t2 ∧ t2 ≤ 3 * ((k + 1 : Nat) : Int) ∧ wr = wx)
      case first =>
        rcases Nat.lt_or_ge k n1 with hk1 | hk1
        · obtain ⟨x, hx⟩ : ∃ x, l1[k]? = some x := ⟨_, List.getElem?_eq_getElem (by rw [HN.out.1]; exact hk1)⟩
          have hx255 := HBB.out.1 x (List.mem_of_getElem? hx)
          have hcx : Hid (NumsIn wr .u8 A1 l1) := hide (by obtain ⟨_, _, _, _, _, _, _, _, _, ho, _⟩ := HW.out; exact HR.out.1.only ho)
          obtain ⟨g, o, rfl, hc⟩ := hcx.out k x hx
          clear hx hcx
          go_wp2
          go_meet
          exact ⟨_, rfl, by omega, by omega, rfl⟩
        · go_wp2
          go_meet
          exact ⟨t, rfl, ht0, by omega, rfl⟩
      case rest =>
        obtain ⟨t2, rfl, ht20, ht21, rfl⟩ := hcut
        obtain ⟨clock, l, m, eb, vb, zs, va, hP, hQ, hO, hI, hg1, hg2, hmk⟩ := HW.out
        have HP := hide hP
        have HQ := hide hQ
        have HO := hide hO
        have HI := hide hI
        have HG := hide (And.intro hg1 hg2)
        have HM := hide hmk
        have hka : 0 ≤ (k : Int) ∧ (k : Int) < 4294967296 := by omega
        have HKA := hide hka
        have HLF : Hid ((0 : Int) ≤ 1000 ∧ (1000 : Int) ≤ 1099511627776) := hide (by omega)
        have wk : IntKind.u32.wrap (k : Int) = (k : Int) := by simp [IntKind.wrap, IntKind.bits, IntKind.signed]; omega
        have wk64 : IntKind.u64.wrap ((k : Int) + 1) = (k : Int) + 1 := by simp [IntKind.wrap, IntKind.bits, IntKind.signed]; omega
        have wki : IntKind.i64.wrap ((k : Int) + 1) = (k : Int) + 1 := by simp [IntKind.wrap, IntKind.bits, IntKind.signed]; omega
        clear hP hQ hO hI hg1 hg2 hmk hka HW
        by_cases h5 : (k : Int) % 5 = 4
        · have h5' : ((k : Int) % 5 == 4) = true := by simpa using h5
          have bp := build_pk0
          have bq := build_rpk0
          clear h5
          go_wp2_with fail
          refine (submit_any w.heap.size q b m 1000 clock k t2 pk0 l eb vb _ HP.out HKA.out (by have := HM.out; omega) HO.out.size (HI.out.ok k) (fun x hx => (HI.out.2 x hx).2) (nums_nil _ _) (by simp [pk0, maxLen]) (fun _ => ⟨rfl, rfl⟩) (fun g o s hA hd => absurd rfl hd)).mono ?_
          rintro e w3 ⟨eb3, vb3, rfl, hP3, ho3⟩
          have H3 := hide (show _ ∧ _ ∧ _ from ⟨hP3, HQ.out.after HP.out ho3, ho3.only HO.out (Nat.le_refl _) HP.out.bb⟩)
          have hz3 := ho3.size
          clear hP3 ho3
          go_wp2_with fail
          refine (rsubmit_any B2 y 1000 clock k t2 pk0 l zs va _ H3.out.2.1 (by have := HG.out.2; omega) (.inr HI.out.1) (by have := HI.out.1; omega) (HI.out.inE k) (nums_nil _ _) (by simp [pk0, maxLen]) (fun _ => ⟨rfl, rfl⟩) (fun g o s hA hd => absurd rfl hd)).mono ?_
          rintro e w4 ⟨zs4, va4, rfl, hQ4, ho4⟩
          have H4 := hide (show AfterK w q b y B2 (k + 1) w4 from ⟨_, _, _, _, _, _, _, H3.out.1.after ho4, hQ4, ho4.only H3.out.2.2 HG.out.1, HI.out.sub k pk0 t2 clock HKA.out, HG.out.1, by have := HG.out.2; have := ho4.size; omega, by have := HM.out; omega⟩)
          obtain ⟨R, hRR⟩ : ∃ R, R = subL l k pk0 t2 clock := ⟨_, rfl⟩
          rw [← hRR]
          have hne1 : (R.2.2.2.2 != R.2.2.2.2) = false := by simp
          have hne3 : (R.2.2.2.1 != R.2.2.2.1) = false := by simp
          clear hRR hQ4 ho4 H3 HP HQ hz3 bp bq
          go_wp2
          go_roundw
          case rel => exact ⟨k + 1, t2, by omega, by go_num, rfl, ht20, ht21, H4⟩
          case measure => simp [Go.RowKit.intOf]; omega
        · have h5' : ((k : Int) % 5 == 4) = false := by simpa using h5
          clear h5
          go_wp2_with fail
          refine (learn_ok w.heap.size q b m 1000 clock k (k + 1) t2 l eb vb _ HP.out HKA.out (by have := HM.out; omega) HO.out.size HLF.out (HI.out.ok k)).mono ?_
          rintro e w3 ⟨v, qs, eb3, vb3, rfl, hrow, hlie, hP3, ho3⟩
          obtain ⟨A3, c3', rfl⟩ := off_shape hrow
          have H3 := hide (show _ ∧ _ ∧ _ from ⟨hP3, HQ.out.after HP.out ho3, ho3.only HO.out (Nat.le_refl _) HP.out.bb⟩)
          have hz3 := ho3.size
          clear hP3 ho3 hrow hlie
          go_wp2_with fail
          refine (rlearn_ok B2 y 1000 clock k (k + 1) t2 l zs va _ H3.out.2.1 (by have := HG.out.2; omega) HLF.out (.inr HI.out.1) (by have := HI.out.1; omega) (HI.out.inE k)).mono ?_
          rintro e w4 ⟨v4, qs4, zs4, va4, rfl, hrow4, hlie4, hQ4, ho4⟩
          obtain ⟨A4, c4', rfl⟩ := off_shape hrow4
          have H4 := hide (show AfterK w q b y B2 (k + 1) w4 from ⟨_, _, _, _, _, _, _, H3.out.1.after ho4, hQ4, ho4.only H3.out.2.2 HG.out.1, HI.out.learn k (k + 1) t2 1000 clock HKA.out, HG.out.1, by have := HG.out.2; have := ho4.size; omega, by have := HM.out; omega⟩)
          obtain ⟨R, hRR⟩ : ∃ R, R = learnL l k (k + 1) t2 1000 clock := ⟨_, rfl⟩
          rw [← hRR]
          have hne : (R.2.2.1 != R.2.2.1) = false := by simp
          clear hRR hQ4 ho4 H3 HP HQ hz3 hrow4 hlie4
          go_wp2
          go_roundw
          case rel => exact ⟨k + 1, t2, by omega, by go_num, rfl, ht20, ht21, H4⟩
          case measure => simp [Go.RowKit.intOf]; omega
    · obtain rfl : k = 250 := by omega
      rw [show ((250 : Nat) : Int) = (250 : Int) from rfl]
      have HW2 := hide (show AfterM w q b y B2 wr from by
        obtain ⟨clock, l, m, eb, vb, zs, va, a1, a2, a3, a4, a5, a6, a7⟩ := HW.out
        exact ⟨clock, l, m, eb, vb, zs, va, a1, a2, a3, a4, a5, a6, by omega⟩)
      clear HW
      go_wp2
      go_loopw [124] (fun i wr => ∃ k : Nat, k ≤ n2 ∧ i = .int .i64 k ∧ Hid (AfterM w q b y B2 wr)) (fun i _ => n2 - (Go.RowKit.intOf i).toNat)
      case atStart => exact ⟨0, Nat.zero_le _, rfl, HW2⟩
      case round =>
        obtain ⟨k, hk, rfl, HX⟩ := hrel
        clear HW2
        rcases Nat.lt_or_ge k n2 with hlt | hge2
        · obtain ⟨clock, l, m, eb, vb, zs, va, hP, hQ, hO, hI, hg1, hg2, hmk⟩ := HX.out
          obtain ⟨x, hx⟩ : ∃ x, l2[k]? = some x := ⟨_, List.getElem?_eq_getElem (by rw [HN.out.2]; exact hlt)⟩
          have hx255 := HBB.out.2 x (List.mem_of_getElem? hx)
          obtain ⟨g, o, rfl, hc⟩ := (HR.out.2.only hO) k x hx
          have HP := hide hP
          have HQ := hide hQ
          have HO := hide hO
          have HI := hide hI
          have HG := hide (And.intro hg1 hg2)
          have HM := hide hmk
          have wk : IntKind.u32.wrap (x : Int) = (x : Int) := by simp [IntKind.wrap, IntKind.bits, IntKind.signed]; omega
          clear hP hQ hO hI hg1 hg2 hmk hx HX
          go_wp2_with fail
          refine (rlookup_ok w.heap.size q b m 1000 clock x t l eb vb _ HP.out (by omega)).mono ?_
          rintro e w3 ⟨rfl, hP3, ho3⟩
          have H3 := hide (show _ ∧ _ ∧ _ from ⟨hP3, HQ.out.after HP.out ho3, ho3.only HO.out (Nat.le_refl _) HP.out.bb⟩)
          have hz3 := ho3.size
          clear hP3 ho3 hc
          go_wp2_with fail
          refine (rrlookup_ok B2 y 1000 clock x t l zs va _ (by have := HI.out.1; omega) H3.out.2.1).mono ?_
          rintro e w4 ⟨rfl, hQ4, ho4⟩
          have H4 := hide (show AfterM w q b y B2 w4 from ⟨_, _, _, _, _, _, _, H3.out.1.after ho4, hQ4, ho4.only H3.out.2.2 HG.out.1, HI.out, HG.out.1, by have := HG.out.2; have := ho4.size; omega, HM.out⟩)
          obtain ⟨R, hRR⟩ : ∃ R, R = lookL l x t clock := ⟨_, rfl⟩
          rw [← hRR]
          have hne : (R.2.1 != R.2.1) = false := by simp
          have hne2 : (R.1 != R.1) = false := by simp
          clear hRR hQ4 ho4 H3 HP HQ hz3
          go_wp2
          go_roundw
          case rel => exact ⟨k + 1, by omega, by go_num, H4⟩
          case measure => simp [Go.RowKit.intOf]; omega
        · obtain rfl : k = n2 := by omega
          go_wp2_with fail
          refine (awake_ok _).mono ?_
          rintro e w9 ⟨rfl, ho⟩
          have HZ := hide (show Only [] w w9 from by
            obtain ⟨_, _, _, _, _, _, _, _, _, hb, _⟩ := HX.out
            exact Only.trans hb ho)
          clear ho
          go_wp2
          go_ret
          exact ⟨rfl, HZ.out⟩

end Go.Proofs.Ytlnejlhdkmneeaa
