/- PacketsResolves answers true. -/
import Derived.Test.YtlnejlhdkmneeaaLawResP
import Derived.Deep.DeepCutAuto
import Derived.Deep.CutBlock
namespace Go.Proofs.Ytlnejlhdkmneeaa
open Go.RowKit

/-- A call of a resolver. -/
structure Cl where
  kind : Int
  a : Int
  hw : Int
  now : Int
  p : Pkt
def Cl.cells (c : Cl) : List Value := [I64 c.kind, .int .u32 c.a, .int .u64 c.hw, I64 c.now, .int .u32 c.p.src, .int .u32 c.p.dst, I64 c.p.proto, I64 c.p.ttl, I64 c.p.id, I64 c.p.off, .bool c.p.more, .slice c.p.A c.p.data.length c.p.cap]
def Cl.Fit (w : World) (c : Cl) : Prop := (0 ≤ c.a ∧ c.a < 4294967296) ∧ NumsIn w .u8 c.p.A c.p.data ∧ c.p.data.length ≤ maxLen ∧ (c.p.A = none → c.p.data.length = 0 ∧ c.p.cap = 0) ∧ ∀ g o s, c.p.A = some ⟨g, o, s⟩ → c.p.data ≠ [] → g < w.heap.size
def ClsIn (w : World) (A : Option Addr) (l : List Cl) : Prop :=
  ∀ (k : Nat) (r : Cl), l[k]? = some r → ∃ b o, A = some ⟨b, o, none⟩ ∧ ∀ (j : Nat) (v : Value), r.cells[j]? = some v → w.cell? ⟨b, o + k * 12 + j, none⟩ = some v
theorem ClsIn.only {w w' : World} {A : Option Addr} {rs : List Cl} (h : ClsIn w A rs) (ho : Only [] w w') : ClsIn w' A rs := by
  intro k r hr
  obtain ⟨b, o, hA, hc⟩ := h k r hr
  exact ⟨b, o, hA, fun j v hv => by rw [World.cell?_of_block (w := w) (ho.block b (World.block_lt_of_cell? _ _ (hc j v hv)) (by simp))]; exact hc j v hv⟩
abbrev clT : TypeId := 120

def AfterR (w0 : World) (q b y B2 k : Nat) (life : Int) (wx : World) : Prop :=
  ∃ clock l m eb vb zs va, ResAt w0.heap.size q b m life clock l eb vb wx ∧ RResAt B2 y life clock l zs va wx ∧ Only [] w0 wx ∧ InvL l k ∧ m ≤ k ∧ w0.heap.size ≤ B2 ∧ B2 ≤ wx.heap.size

theorem RResAt.after {base y b b0 : Nat} {life clock : Int} {l : List Ent} {zs : List (Ent × Value)} {va : Value} {w w' : World} {base1 q m : Nat} {l1 : List Ent} {eb : Int → Nat} {vb : Int → Value} {c1 : Int}
    (h : RResAt base y life clock l zs va w) (hA : ResAt base1 q b m life c1 l1 eb vb w) (ho : OnlyM b resTs b0 w w') : RResAt base y life clock l zs va w' :=
  h.onlyM ho (fun T cs hk => hA.map.ne hk rfl) (by decide) (by decide) (by decide) (by decide)
theorem ResAt.after {base b : Nat} {life clock : Int} {w w' : World} {base1 q m : Nat} {l1 : List Ent} {eb : Int → Nat} {vb : Int → Value}
    (h : ResAt base1 q b m life clock l1 eb vb w) (ho : OnlyT rresTs base w w') : ResAt base1 q b m life clock l1 eb vb w' :=
  h.onlyT ho (by decide) (by decide) (by decide) (by decide)

set_option maxRecDepth 100000 in
set_option maxHeartbeats 64000000 in
theorem lawres (life : Int) (A : Option Addr) (n c : Nat) (l0 : List Cl) (w : World) (hn : l0.length = n) (hm : ¬ 60 < n) (hf : ∀ x ∈ l0, x.Fit w) (hA : ClsIn w A l0) :
    Calls Try.prog 13 #[I64 life, .slice A n c] w fun e w' => e = .returned (.bool true) ∧ Only [] w w' := by
  have HN := hide hn
  have HF0 := hide hf
  have HR := hide hA
  clear hn hf hA
  by_cases hlife : life < 1 ∨ 1099511627776 < life
  · have HL := hide hlife
    clear hlife
    go_enter Try.func13, Try.ntmps13
    go_wp2_with fail
    refine (newRes_ok life _).mono ?_
    rintro e w1 h1
    unfold NewResS at h1
    rw [if_pos HL.out] at h1
    obtain ⟨rfl, ho1⟩ := h1
    have H1 := hide ho1
    clear ho1
    go_wp2_with fail
    refine (rnewRes_ok life _).mono ?_
    rintro e w2 h2
    unfold RNewResS at h2
    rw [if_pos HL.out] at h2
    obtain ⟨rfl, ho2⟩ := h2
    have H2 := hide (Only.trans H1.out ho2)
    clear ho2
    go_wp2_with fail
    refine (awake_ok _).mono ?_
    rintro e w9 ⟨rfl, ho⟩
    have HZ := hide (Only.trans H2.out ho)
    clear ho
    go_wp2
    go_ret
    exact ⟨rfl, HZ.out⟩
  have HL := hide hlife
  have HLF := hide (show 0 ≤ life ∧ life ≤ 1099511627776 by omega)
  clear hlife
  go_enter Try.func13, Try.ntmps13
  go_wp2_with fail
  refine (newRes_ok life _).mono ?_
  rintro e w1 h1
  unfold NewResS at h1
  rw [if_neg HL.out] at h1
  obtain ⟨q, b, rfl, hx1, ho1⟩ := h1
  have H1 := hide (And.intro hx1 ho1)
  clear ho1 hx1
  go_wp2_with fail
  refine (rnewRes_ok life _).mono ?_
  rintro e w2 h2
  unfold RNewResS at h2
  rw [if_neg HL.out] at h2
  obtain ⟨y, rfl, hy2, ho2⟩ := h2
  have HT := hide (show AfterR w q b y w1.heap.size 0 life w2 from ⟨_, _, _, _, _, _, _, H1.out.1.only ho2, hy2, Only.trans H1.out.2 ho2, InvL.nil, Nat.le_refl _, H1.out.2.size, ho2.size⟩)
  obtain ⟨B2, hB2⟩ : ∃ p, p = w1.heap.size := ⟨_, rfl⟩
  rw [← hB2] at HT
  clear hy2 ho2 H1 hB2
  go_wp2
  go_loopw [9, 55] (fun nn i wr => ∃ (k : Nat) (s : Int), k ≤ n ∧ i = .int .i64 k ∧ nn = .int .i64 s ∧ Hid (AfterR w q b y B2 k life wr)) (fun _ i _ => n - (Go.RowKit.intOf i).toNat)
  case atStart => exact ⟨0, 0, Nat.zero_le _, rfl, rfl, HT⟩
  case round =>
    obtain ⟨k, s, hk, rfl, rfl, HW⟩ := hrel
    rcases Nat.lt_or_ge k n with hlt | hge
    · obtain ⟨ch, hx⟩ : ∃ x, l0[k]? = some x := ⟨_, List.getElem?_eq_getElem (by rw [HN.out]; exact hlt)⟩
      have hfit0 := HF0.out ch (List.mem_of_getElem? hx)
      obtain ⟨clock, l, m, eb, vb, zs, va, hP, hQ, hO, hI, hmk, hb1, hb2⟩ := HW.out
      obtain ⟨g, o, rfl, hcx⟩ := (HR.out.only hO) k ch hx
      obtain ⟨kind, a, hwr, now, p⟩ := ch
      obtain ⟨ha, hpn, hpl, hp0, hpb⟩ := hfit0
      simp only at ha hpn hpl hp0 hpb
      have x0 := hcx 0 _ rfl
      rw [Nat.add_zero] at x0
      have x1 := hcx 1 _ rfl
      have x2 := hcx 2 _ rfl
      have x3 := hcx 3 _ rfl
      have x4 := hcx 4 _ rfl
      have x5 := hcx 5 _ rfl
      have x6 := hcx 6 _ rfl
      have x7 := hcx 7 _ rfl
      have x8 := hcx 8 _ rfl
      have x9 := hcx 9 _ rfl
      have x10 := hcx 10 _ rfl
      have x11 := hcx 11 _ rfl
      simp only at x0 x1 x2 x3 x4 x5 x6 x7 x8 x9 x10 x11
      have hal : Only [] wr (wr.alloc (.cells #[I64 kind, .int .u32 a, .int .u64 hwr, I64 now, .int .u32 p.src, .int .u32 p.dst, I64 p.proto, I64 p.ttl, I64 p.id, I64 p.off, .bool p.more, .slice p.A p.data.length p.cap] clT)) := (Only.refl [] wr).alloc _
      have hbx : Blk (wr.alloc (.cells #[I64 kind, .int .u32 a, .int .u64 hwr, I64 now, .int .u32 p.src, .int .u32 p.dst, I64 p.proto, I64 p.ttl, I64 p.id, I64 p.off, .bool p.more, .slice p.A p.data.length p.cap] clT)) wr.heap.size clT (Cl.cells ⟨kind, a, hwr, now, p⟩) := Blk.newA rfl
      obtain ⟨W, hW⟩ : ∃ W, W = wr.alloc (.cells #[I64 kind, .int .u32 a, .int .u64 hwr, I64 now, .int .u32 p.src, .int .u32 p.dst, I64 p.proto, I64 p.ttl, I64 p.id, I64 p.off, .bool p.more, .slice p.A p.data.length p.cap] clT) := ⟨_, rfl⟩
      obtain ⟨G, hG⟩ : ∃ G, G = wr.heap.size := ⟨_, rfl⟩
      rw [← hW, ← hG] at hbx
      rw [← hW] at hal
      have hGw : w.heap.size ≤ G := by rw [hG]; exact hO.size
      have hGne : G ≠ b := by rw [hG]; have := hP.map.lt; omega
      have hOW := Only.trans hO hal
      have HWW := hide hW
      have HGG := hide hG
      have HP := hide (hP.only hal)
      have HQ := hide (hQ.only hal)
      have HC := hide hbx
      have HI := hide hI
      have HO := hide hOW
      have HB := hide (show _ ∧ _ from ⟨hb1, show B2 ≤ W.heap.size from Nat.le_trans hb2 hal.size⟩)
      have HP3 := hide (show _ ∧ _ ∧ _ from ⟨ha, hp0, hpb⟩)
      have HPN := hide (hpn.only hOW)
      have HPN0 := hide hpn
      obtain ⟨t, ht⟩ : ∃ t, IntKind.i64.wrap (s + (p.data.length : Int)) = t := ⟨_, rfl⟩
      have HPL := hide hpl
      have HK := hide hmk
      have HGN := hide hGne
      clear hx hcx hP hQ hO hI hal hbx hW hG HW hb1 hb2 hp0 hpb hpn hOW hpl hmk ha hGne
      by_cases hbig : 5000 < t
      · go_wp2_with fail
        refine (awake_ok _).mono ?_
        rintro e w9 ⟨rfl, ho⟩
        have HZ := hide (show Only [] w w9 from by rw [← HWW.out] at ho; exact Only.trans HO.out ho)
        clear ho
        go_wp2
        go_ret
        exact ⟨rfl, HZ.out⟩
      have hbig' : t ≤ 5000 := by omega
      clear hbig
      go_upto_block 2 with (fail)
      simp only [← HGG.out]
      rw [← HWW.out]
      clear HWW HGG x0 x1 x2 x3 x4 x5 x6 x7 x8 x9 x10 x11
      have c0 := HC.out.cell (i := 0) rfl
      have c1 := HC.out.cell (i := 1) rfl
      have c2 := HC.out.cell (i := 2) rfl
      have c3 := HC.out.cell (i := 3) rfl
      have c4 := HC.out.cell (i := 4) rfl
      have c5 := HC.out.cell (i := 5) rfl
      have c6 := HC.out.cell (i := 6) rfl
      have c7 := HC.out.cell (i := 7) rfl
      have c8 := HC.out.cell (i := 8) rfl
      have c9 := HC.out.cell (i := 9) rfl
      have c10 := HC.out.cell (i := 10) rfl
      have c11 := HC.out.cell (i := 11) rfl
      have ltg := HC.out.lt
      simp only at c0 c1 c2 c3 c4 c5 c6 c7 c8 c9 c10 c11
      have hl60 : l.length < 200 := by have := HI.out.1; omega
      by_cases h0 : kind = 0
      · subst h0
        have HCO := HC
        go_wp2_with fail
        refine (learn_ok w.heap.size q b m life clock a hwr now l eb vb _ HP.out HP3.out.1 (by have := HK.out; omega) HO.out.size HLF.out (HI.out.ok (by omega) a)).mono ?_
        rintro e w3 ⟨v, qs, eb3, vb3, rfl, hrow, hlie, hP3, ho3⟩
        obtain ⟨A3, c3', rfl⟩ := off_shape hrow
        have hC3 := ho3.blk HC.out (by decide) HGN.out
        have H3 := hide (show _ ∧ _ ∧ _ ∧ _ ∧ _ ∧ _ from ⟨hP3, HQ.out.after HP.out ho3, hrow, hlie, hC3, ho3.only HO.out (Nat.le_refl _) HP.out.bb⟩)
        have hz3 := ho3.size
        have c0 := hC3.cell (i := 0) rfl
        have c1 := hC3.cell (i := 1) rfl
        have c2 := hC3.cell (i := 2) rfl
        have c3 := hC3.cell (i := 3) rfl
        have ltg := hC3.lt
        simp only at c0 c1 c2 c3
        clear hP3 hrow hlie hC3 ho3 c4 c5 c6 c7 c8 c9 c10 c11
        go_wp2_with fail
        refine (rlearn_ok B2 y life clock a hwr now l zs va _ H3.out.2.1 (by have := HB.out.2; omega) HLF.out (.inr (by omega)) (by omega) (HI.out.inE a).1).mono ?_
        rintro e w4 ⟨v4, qs4, zs4, va4, rfl, hrow4, hlie4, hQ4, ho4⟩
        obtain ⟨A4, c4', rfl⟩ := off_shape hrow4
        have hinv := HI.out.learn a hwr now life clock HP3.out.1
        have hrow3 := ho4.off H3.out.2.2.1 (by decide)
        have hlie3 := H3.out.2.2.2.1.sameOn (fun j cs hj => (ho4.blk hj (by decide)).trans hj.symm)
        have H4 := hide (show _ ∧ _ ∧ _ ∧ _ from ⟨H3.out.1.after ho4, hQ4, ho4.only H3.out.2.2.2.2.2 HB.out.1, show B2 ≤ w4.heap.size from by have := ho4.size; have := HB.out.2; omega⟩)
        have HS := hide (same_lie hlie3 hlie4 hinv.2.2)
        have HPA := hide (show _ ∧ _ from ⟨pks_of_off hrow3, pks_of_off hrow4⟩)
        obtain ⟨R, hRR⟩ : ∃ R, R = learnL l a hwr now life clock := ⟨_, rfl⟩
        rw [← hRR] at hinv H4 HS ⊢
        have hRl : R.2.2.2.length ≤ 1000000 := by omega
        have HV := hide hinv.1
        have hne : (R.2.2.1 != R.2.2.1) = false := by simp
        clear hrow3 hlie3 hrow4 hlie4 hQ4 ho4 hinv H3 c0 c1 c2 c3 ltg hz3 hRR HP HQ HC HCO
        go_wp2_with fail
        refine (eqfunc_off A3 A4 _ _ _ qs qs4 _ HPA.out.1 HPA.out.2 hRl HS.out).mono ?_
        rintro e w5 ⟨rfl, ho5⟩
        have H5 := hide (show AfterR w q b y B2 (k + 1) life w5 from ⟨_, _, _, _, _, _, _, H4.out.1.only ho5, H4.out.2.1.only ho5, Only.trans H4.out.2.2.1 ho5, HV.out, by have := HK.out; omega, HB.out.1, Nat.le_trans H4.out.2.2.2 ho5.size⟩)
        clear ho5
        go_wp2
        go_roundw
        case rel => exact ⟨k + 1, _, by omega, by go_num, rfl, H5⟩
        case measure => simp [Go.RowKit.intOf]; omega
      have n0 : (kind == 0) = false := by simpa using h0
      by_cases h1 : kind = 1
      · subst h1
        clear h0
        go_wp2_with fail
        refine (rlookup_ok w.heap.size q b m life clock a now l eb vb _ HP.out HP3.out.1).mono ?_
        rintro e w3 ⟨rfl, hP3, ho3⟩
        have hC3 := ho3.blk HC.out (by decide) HGN.out
        have H3 := hide (show _ ∧ _ ∧ _ from ⟨hP3, HQ.out.after HP.out ho3, ho3.only HO.out (Nat.le_refl _) HP.out.bb⟩)
        have hz3 := ho3.size
        have c0 := hC3.cell (i := 0) rfl
        have c1 := hC3.cell (i := 1) rfl
        have c2 := hC3.cell (i := 2) rfl
        have c3 := hC3.cell (i := 3) rfl
        have ltg := hC3.lt
        simp only at c0 c1 c2 c3
        clear hP3 hC3 ho3 c4 c5 c6 c7 c8 c9 c10 c11
        go_wp2_with fail
        refine (rrlookup_ok B2 y life clock a now l zs va _ (by omega) H3.out.2.1).mono ?_
        rintro e w4 ⟨rfl, hQ4, ho4⟩
        have H4 := hide (show AfterR w q b y B2 (k + 1) life w4 from ⟨_, _, _, _, _, _, _, H3.out.1.after ho4, hQ4, ho4.only H3.out.2.2 HB.out.1, HI.out.more, by have := HK.out; omega, HB.out.1, by have := ho4.size; have := HB.out.2; omega⟩)
        obtain ⟨R, hRR⟩ : ∃ R, R = lookL l a now clock := ⟨_, rfl⟩
        rw [← hRR]
        have hne : (R.2.1 != R.2.1) = false := by simp
        have hne2 : (R.1 != R.1) = false := by simp
        clear hQ4 ho4 H3 c0 c1 c2 c3 ltg hz3 hRR HP HQ HC
        go_wp2
        go_roundw
        case rel => exact ⟨k + 1, _, by omega, by go_num, rfl, H4⟩
        case measure => simp [Go.RowKit.intOf]; omega
      have n1 : (kind == 1) = false := by simpa using h1
      by_cases h2 : kind = 2
      · subst h2
        clear h0 h1
        go_wp2_with fail
        refine (submit_any w.heap.size q b m life clock a now p l eb vb _ HP.out HP3.out.1 (by have := HK.out; omega) HO.out.size (HI.out.ok (by omega) a) (fun x hx => (HI.out.2 x hx).2.1) HPN.out HPL.out HP3.out.2.1 HP3.out.2.2).mono ?_
        rintro e w3 ⟨eb3, vb3, rfl, hP3, ho3⟩
        have hC3 := ho3.blk HC.out (by decide) HGN.out
        have H3 := hide (show _ ∧ _ ∧ _ ∧ _ from ⟨hP3, HQ.out.after HP.out ho3, hC3, ho3.only HO.out (Nat.le_refl _) HP.out.bb⟩)
        have hz3 := ho3.size
        have c0 := hC3.cell (i := 0) rfl
        have c1 := hC3.cell (i := 1) rfl
        have c2 := hC3.cell (i := 2) rfl
        have c3 := hC3.cell (i := 3) rfl
        have c4 := hC3.cell (i := 4) rfl
        have c5 := hC3.cell (i := 5) rfl
        have c6 := hC3.cell (i := 6) rfl
        have c7 := hC3.cell (i := 7) rfl
        have c8 := hC3.cell (i := 8) rfl
        have c9 := hC3.cell (i := 9) rfl
        have c10 := hC3.cell (i := 10) rfl
        have c11 := hC3.cell (i := 11) rfl
        have ltg := hC3.lt
        simp only at c0 c1 c2 c3 c4 c5 c6 c7 c8 c9 c10 c11
        clear hP3 hC3 ho3
        go_wp2
        refine wp_region_text 16 [5, 8] [0, 1, 6] [2, 7] (fun w' => w'.cell? ⟨G, 1, none⟩ = some (.int .u32 a) ∧ w'.cell? ⟨G, 3, none⟩ = some (I64 now)) (by kernel_rfl) (by kernel_rfl) ⟨c1, c3⟩ ?_
        simp only [List.take_succ_cons, List.take_zero, List.drop_succ_cons, List.drop_zero]
        repeat (first | ((refine wpText_h rfl rfl ?_; apply Exists.intro; refine ⟨?_, ?_⟩; next => (go_simp; (try (go_bits; go_simp)); (first | done | with_reducible rfl | (rw [if_neg (by omega)]; (try (go_bits; go_simp)); (first | done | with_reducible rfl)) | (rw [if_pos (by omega)]; (try (go_bits; go_simp)); (first | done | with_reducible rfl))))); (try simp only [Act.put, List.setIfInBounds_toArray, List.set_cons_zero, List.set_cons_succ])) | ((refine wpText_p rfl rfl ?_; apply Exists.intro; refine ⟨?_, ?_⟩; next => (intro w'; go_simp; (try (go_bits; go_simp)); (first | done | with_reducible rfl | (rw [if_neg (by omega)]; (try (go_bits; go_simp)); (first | done | with_reducible rfl)) | (rw [if_pos (by omega)]; (try (go_bits; go_simp)); (first | done | with_reducible rfl))))); (try simp only [Act.put, List.setIfInBounds_toArray, List.set_cons_zero, List.set_cons_succ])) | ((refine wpText_y rfl rfl ?_; apply Exists.intro; refine ⟨?_, ?_⟩; next => (intro w' hS; (first | obtain ⟨_, rfl⟩ := hS | skip); go_simp; (try (go_bits; go_simp)); (first | done | with_reducible rfl | (rw [if_neg (by omega)]; (try (go_bits; go_simp)); (first | done | with_reducible rfl)) | (rw [if_pos (by omega)]; (try (go_bits; go_simp)); (first | done | with_reducible rfl))))); (try simp only [Act.put, List.setIfInBounds_toArray, List.set_cons_zero, List.set_cons_succ])) | (refine wpText_skip (by first | exact .inl rfl | exact .inr (.inl rfl) | exact .inr (.inr rfl)) rfl ?_; (try simp only [Act.put, List.setIfInBounds_toArray, List.set_cons_zero, List.set_cons_succ])))
        refine wpText_e rfl rfl (fun K hK => ?_)
        go_wp2_with fail
        refine (ref_ok p _).mono ?_
        rintro e w4 ⟨rfl, ho4⟩
        have hC4 := ho4.blk (H3.out.2.2.1.drew) (by simp)
        have H4 := hide (show _ ∧ _ ∧ _ ∧ _ ∧ _ from ⟨H3.out.1.only (Only.trans (Only.refl [] w3).drew ho4), H3.out.2.1.only (Only.trans (Only.refl [] w3).drew ho4), hC4, Only.trans H3.out.2.2.2 (Only.trans (Only.refl [] w3).drew ho4), show w3.heap.size ≤ w4.heap.size from ho4.size⟩)
        refine hK _ _ ⟨hC4.cell (i := 1) rfl, hC4.cell (i := 3) rfl⟩ ?_
        clear hK K ho4 hC4 c0 c1 c2 c3 c4 c5 c6 c7 c8 c9 c10 c11 ltg
        repeat (first | ((refine wpText_h rfl rfl ?_; apply Exists.intro; refine ⟨?_, ?_⟩; next => (go_simp; (try (go_bits; go_simp)); (first | done | with_reducible rfl | (rw [if_neg (by omega)]; (try (go_bits; go_simp)); (first | done | with_reducible rfl)) | (rw [if_pos (by omega)]; (try (go_bits; go_simp)); (first | done | with_reducible rfl))))); (try simp only [Act.put, List.setIfInBounds_toArray, List.set_cons_zero, List.set_cons_succ])) | ((refine wpText_p rfl rfl ?_; apply Exists.intro; refine ⟨?_, ?_⟩; next => (intro w'; go_simp; (try (go_bits; go_simp)); (first | done | with_reducible rfl | (rw [if_neg (by omega)]; (try (go_bits; go_simp)); (first | done | with_reducible rfl)) | (rw [if_pos (by omega)]; (try (go_bits; go_simp)); (first | done | with_reducible rfl))))); (try simp only [Act.put, List.setIfInBounds_toArray, List.set_cons_zero, List.set_cons_succ])) | ((refine wpText_y rfl rfl ?_; apply Exists.intro; refine ⟨?_, ?_⟩; next => (intro w' hS; (first | obtain ⟨_, rfl⟩ := hS | skip); go_simp; (try (go_bits; go_simp)); (first | done | with_reducible rfl | (rw [if_neg (by omega)]; (try (go_bits; go_simp)); (first | done | with_reducible rfl)) | (rw [if_pos (by omega)]; (try (go_bits; go_simp)); (first | done | with_reducible rfl))))); (try simp only [Act.put, List.setIfInBounds_toArray, List.set_cons_zero, List.set_cons_succ])) | (refine wpText_skip (by first | exact .inl rfl | exact .inr (.inl rfl) | exact .inr (.inr rfl)) rfl ?_; (try simp only [Act.put, List.setIfInBounds_toArray, List.set_cons_zero, List.set_cons_succ])))
        refine wpText_e rfl rfl (fun K hK => ?_)
        go_wp2_with fail
        refine (rsubmit_any B2 y life clock a now p l zs va _ H4.out.2.1 (by have := HB.out.2; have := H4.out.2.2.2.2; omega) (.inr (by omega)) (by omega) (HI.out.inE a).1 (HPN0.out.only H4.out.2.2.2.1) HPL.out HP3.out.2.1 (fun g o s h hd => Nat.lt_of_lt_of_le (HP3.out.2.2 g o s h hd) HB.out.1)).mono ?_
        rintro e w5 ⟨zs5, va5, rfl, hQ5, ho5⟩
        have hC5 := ho5.blk H4.out.2.2.1 (by decide)
        have H5 := hide (show AfterR w q b y B2 (k + 1) life w5 from ⟨_, _, _, _, _, _, _, H4.out.1.after ho5, hQ5, ho5.only H4.out.2.2.2.1 HB.out.1, HI.out.sub a p now clock HP3.out.1, by have := HK.out; omega, HB.out.1, by have := HB.out.2; have := H4.out.2.2.2.2; have := ho5.size; omega⟩)
        refine hK _ _ ⟨hC5.cell (i := 1) rfl, hC5.cell (i := 3) rfl⟩ ?_
        clear hK K ho5 hC5 hQ5 H4 H3 HC HP HQ c0 c1 c2 c3 c4 c5 c6 c7 c8 c9 c10 c11 ltg
        obtain ⟨R, hRR⟩ : ∃ R, R = subL l a p now clock := ⟨_, rfl⟩
        rw [← hRR]
        have hne1 : (R.2.2.2.2 != R.2.2.2.2) = false := by simp
        have hne2 : (R.2.2.1 != R.2.2.1) = false := by simp
        have hne3 : (R.2.2.2.1 != R.2.2.2.1) = false := by simp
        clear hRR
        repeat (first | ((refine wpText_h rfl rfl ?_; apply Exists.intro; refine ⟨?_, ?_⟩; next => (go_simp; (try (go_bits; go_simp)); (first | done | with_reducible rfl | (rw [if_neg (by omega)]; (try (go_bits; go_simp)); (first | done | with_reducible rfl)) | (rw [if_pos (by omega)]; (try (go_bits; go_simp)); (first | done | with_reducible rfl))))); (try simp only [Act.put, List.setIfInBounds_toArray, List.set_cons_zero, List.set_cons_succ])) | ((refine wpText_p rfl rfl ?_; apply Exists.intro; refine ⟨?_, ?_⟩; next => (intro w'; go_simp; (try (go_bits; go_simp)); (first | done | with_reducible rfl | (rw [if_neg (by omega)]; (try (go_bits; go_simp)); (first | done | with_reducible rfl)) | (rw [if_pos (by omega)]; (try (go_bits; go_simp)); (first | done | with_reducible rfl))))); (try simp only [Act.put, List.setIfInBounds_toArray, List.set_cons_zero, List.set_cons_succ])) | ((refine wpText_y rfl rfl ?_; apply Exists.intro; refine ⟨?_, ?_⟩; next => (intro w' hS; (first | obtain ⟨_, rfl⟩ := hS | skip); go_simp; (try (go_bits; go_simp)); (first | done | with_reducible rfl | (rw [if_neg (by omega)]; (try (go_bits; go_simp)); (first | done | with_reducible rfl)) | (rw [if_pos (by omega)]; (try (go_bits; go_simp)); (first | done | with_reducible rfl))))); (try simp only [Act.put, List.setIfInBounds_toArray, List.set_cons_zero, List.set_cons_succ])) | (refine wpText_skip (by first | exact .inl rfl | exact .inr (.inl rfl) | exact .inr (.inr rfl)) rfl ?_; (try simp only [Act.put, List.setIfInBounds_toArray, List.set_cons_zero, List.set_cons_succ])))
        refine wpText_nil ?_
        go_wp2
        refine NoX.normal ?_
        go_wp2
        go_roundw
        case rel => exact ⟨k + 1, _, by omega, by go_num, rfl, H5⟩
        case measure => simp [Go.RowKit.intOf]; omega
      have n2 : (kind == 2) = false := by simpa using h2
      have H5 := hide (show AfterR w q b y B2 (k + 1) life W from ⟨_, _, _, _, _, _, _, HP.out, HQ.out, HO.out, HI.out.more, by have := HK.out; omega, HB.out.1, HB.out.2⟩)
      clear h0 h1 h2
      go_wp2
      go_roundw
      case rel => exact ⟨k + 1, _, by omega, by go_num, rfl, H5⟩
      case measure => simp [Go.RowKit.intOf]; omega
    · obtain rfl : k = n := by omega
      clear HT
      go_wp2_with fail
      refine (awake_ok _).mono ?_
      rintro e w9 ⟨rfl, ho⟩
      have HZ := hide (show Only [] w w9 from by
        obtain ⟨_, _, _, _, _, _, _, _, _, hb, _⟩ := HW.out
        exact Only.trans hb ho)
      clear ho
      go_wp2
      go_ret
      exact ⟨rfl, HZ.out⟩

end Go.Proofs.Ytlnejlhdkmneeaa
