/- From; the reference's New. -/
import Derived.Test.YtpeaojkbfllakaaRefD
namespace Go.Proofs.Ytpeaojkbfllakaa
open Go.RowKit

theorem rpart_info : (Try.prog.info? 73).map (fun i => (i.zero, i.size, i.bytes)) = some (some (.agg #[.int .i64 0, .int .i64 0]), 2, 16) := by kernel_rfl

theorem partCells_append (l k : List (Int × Int)) : partCells (l ++ k) = partCells l ++ partCells k := by simp [partCells]
theorem PartsIn.mono {w : World} {B B' : Nat} {A : Option Addr} {l : List (Int × Int)} (h : PartsIn w B A l) (hB : B ≤ B') : PartsIn w B' A l := fun k x hx => by
  obtain ⟨b, o, hA, hl, h0, h1⟩ := h k x hx
  exact ⟨b, o, hA, by omega, h0, h1⟩
theorem PartsIn.of_own {w : World} {b0 : Nat} {e : TypeId} {A : Option Addr} {n c : Nat} {l : List (Int × Int)} (hn : l.length = n) (own : w.ownsRow b0 e 2 (.slice A n c) n (partCells l)) : PartsIn w w.heap.size A l := by
  subst hn
  intro k x hx
  have hk : k < l.length := (List.getElem?_eq_some_iff.1 hx).1
  rcases own.2 with ⟨_, h0⟩ | ⟨g, c', cur, hv, _, hh, _⟩
  · omega
  · injection hv with hA _ hc
    subst hA hc
    obtain ⟨h1, h2⟩ := partCells_at l k x hx
    have hlt : g < w.heap.size := by
      rcases Nat.lt_or_ge g w.heap.size with hl | hl
      · exact hl
      · rw [Array.getElem?_eq_none hl] at hh; cases hh
    refine ⟨g, 0, rfl, hlt, ?_, ?_⟩
    · rw [show 0 + k * 2 = k * 2 by omega, own.cellAt (k * 2) (by omega)]; exact h1
    · rw [show 0 + k * 2 + 1 = k * 2 + 1 by omega, own.cellAt (k * 2 + 1) (by omega)]; exact h2

def FromRel (w : World) (W P : Int) (A : Option Addr) (l : List (Int × Int)) (n cap : Nat) (k : Nat) (wr : World) : Prop :=
  ∃ v, Blk wr w.heap.size 24 [I64 W, I64 P, .slice A n cap] ∧ Blk wr (w.heap.size + 1) 48 [I64 0, I64 0, .slice none 0 0] ∧
    Blk wr (w.heap.size + 2) 48 [I64 W, I64 P, v] ∧ wr.ownsRow (w.heap.size + 3) 73 2 v k (partCells (l.take k)) ∧ Only [] w wr ∧ w.heap.size + 3 ≤ wr.heap.size

theorem rcfg_build (W P : Int) : ∀ w : World, (Instr.build 48 #[(0, I64 W), (1, I64 P)]).run Try.prog w = .ok (.agg #[I64 W, I64 P, .slice none 0 0]) w := fun _ => by kernel_rfl

set_option maxHeartbeats 4000000 in
theorem from_ok (W P : Int) (A : Option Addr) (l : List (Int × Int)) (n cap : Nat) (w : World) (B : Nat) (hA : PartsIn w B A l) (hB : B ≤ w.heap.size) (hln : l.length = n) (hn : n ≤ 20) :
    Calls Try.prog 17 #[.agg #[I64 W, I64 P, .slice A n cap]] w
      fun e w' => ∃ A' c', e = .returned (.agg #[I64 W, I64 P, .slice A' n c']) ∧ n ≤ c' ∧ PartsIn w' w'.heap.size A' l ∧ Only [] w w' := by
  obtain ⟨i0, hi0, hz0, hs0, hb0⟩ := info_parts rpart_info
  have HA := hide hA
  have HL := hide hln
  have hbd := rcfg_build W P
  have hst : ∀ wr, wr = ((w.alloc (.cells #[I64 W, I64 P, .slice A n cap] 24)).alloc (.cells #[I64 0, I64 0, .slice none 0 0] 48)).alloc (.cells #[I64 W, I64 P, .slice none 0 0] 48) → FromRel w W P A l n cap 0 wr := by
    rintro wr rfl
    have b0 := Blk.new w 24 [I64 W, I64 P, .slice A n cap]
    have b1 := Blk.new' (w.alloc (.cells #[I64 W, I64 P, .slice A n cap] 24)) 48 [I64 0, I64 0, .slice none 0 0] (g := w.heap.size + 1) (by simp)
    have b2 := Blk.new' ((w.alloc (.cells #[I64 W, I64 P, .slice A n cap] 24)).alloc (.cells #[I64 0, I64 0, .slice none 0 0] 48)) 48 [I64 W, I64 P, .slice none 0 0] (g := w.heap.size + 2) (by simp)
    exact ⟨.slice none 0 0, (b0.alloc _).alloc _, b1.alloc _, b2, by simpa [partCells] using World.ownsRow_nil _ _ _ _, (((Only.refl _ _).alloc _).alloc _).alloc _, by simp⟩
  have HST := hide hst
  clear hA hln hst
  go_enter Try.func17, Try.ntmps17
  go_wp2
  go_loopw [4] (fun i wr => ∃ k : Nat, k ≤ n ∧ i = .int .i64 k ∧ FromRel w W P A l n cap k wr) (fun i _ => n - (intOf i).toNat)
  case atStart => exact ⟨0, Nat.zero_le _, rfl, HST.out _ rfl⟩
  case round =>
    obtain ⟨k, hk, rfl, v, h0, h1, h2, own, ho, hz⟩ := hrel
    have H0 := hide h0
    have H1 := hide h1
    have H2 := hide h2
    have HO := hide ho
    have x2 := h0.cell (i := 2) rfl
    have y2 := h2.cell (i := 2) rfl
    have g2 := h2.frozen 2
    have hl2 := h2.lt
    clear h0 h1 h2 ho HST
    rcases Nat.lt_or_ge k n with hlt | hge
    · obtain ⟨x, hx⟩ : ∃ x, l[k]? = some x := ⟨_, List.getElem?_eq_getElem (by rw [HL.out]; exact hlt)⟩
      obtain ⟨ab, ao, rfl, hab, a0, a1⟩ := (HA.out.only HO.out hB) k x hx
      have hstep : Hid (partCells (l.take (k + 1)) = partCells (l.take k) ++ [I64 x.1, I64 x.2]) := hide (by rw [List.take_add_one, hx, partCells_append]; rfl)
      have hwz := HO.out.size
      have OWN := hide own
      obtain ⟨vA, vc, rfl⟩ := own_shape own
      clear hx own
      go_wp2
      refine wp_region_text 16 [15] [0] [1] (fun w' => w'.cell? ⟨w.heap.size + 2, 2, none⟩ = some (.slice vA k vc)) (by kernel_rfl) (by kernel_rfl) y2 ?_
      simp only [List.take_succ_cons, List.take_zero, List.drop_succ_cons, List.drop_zero]
      repeat (first | ((refine wpText_h rfl rfl ?_; apply Exists.intro; refine ⟨?_, ?_⟩; next => (go_simp; (try (go_bits; go_simp)); (first | done | with_reducible rfl | (rw [if_neg (by omega)]; (try (go_bits; go_simp)); (first | done | with_reducible rfl)) | (rw [if_pos (by omega)]; (try (go_bits; go_simp)); (first | done | with_reducible rfl))))); (try simp only [Act.put, List.setIfInBounds_toArray, List.set_cons_zero, List.set_cons_succ])) | ((refine wpText_p rfl rfl ?_; apply Exists.intro; refine ⟨?_, ?_⟩; next => (intro w'; go_simp; (try (go_bits; go_simp)); (first | done | with_reducible rfl | (rw [if_neg (by omega)]; (try (go_bits; go_simp)); (first | done | with_reducible rfl)) | (rw [if_pos (by omega)]; (try (go_bits; go_simp)); (first | done | with_reducible rfl))))); (try simp only [Act.put, List.setIfInBounds_toArray, List.set_cons_zero, List.set_cons_succ])) | ((refine wpText_y rfl rfl ?_; apply Exists.intro; refine ⟨?_, ?_⟩; next => (intro w' hS; (first | obtain ⟨_, rfl⟩ := hS | skip); go_simp; (try (go_bits; go_simp)); (first | done | with_reducible rfl | (rw [if_neg (by omega)]; (try (go_bits; go_simp)); (first | done | with_reducible rfl)) | (rw [if_pos (by omega)]; (try (go_bits; go_simp)); (first | done | with_reducible rfl))))); (try simp only [Act.put, List.setIfInBounds_toArray, List.set_cons_zero, List.set_cons_succ])) | (refine wpText_skip (by first | exact .inl rfl | exact .inr (.inl rfl) | exact .inr (.inr rfl)) rfl ?_; (try simp only [Act.put, List.setIfInBounds_toArray, List.set_cons_zero, List.set_cons_succ])))
      refine wpText_e rfl rfl (fun K hK => ?_)
      go_wp2
      refine hK _ _ (by go_simp) ?_
      clear hK K
      (try simp only [Act.put, List.setIfInBounds_toArray, List.set_cons_zero, List.set_cons_succ])
      repeat (first | ((refine wpText_h rfl rfl ?_; apply Exists.intro; refine ⟨?_, ?_⟩; next => (go_simp; (try (go_bits; go_simp)); (first | done | with_reducible rfl | (rw [if_neg (by omega)]; (try (go_bits; go_simp)); (first | done | with_reducible rfl)) | (rw [if_pos (by omega)]; (try (go_bits; go_simp)); (first | done | with_reducible rfl))))); (try simp only [Act.put, List.setIfInBounds_toArray, List.set_cons_zero, List.set_cons_succ])) | ((refine wpText_p rfl rfl ?_; apply Exists.intro; refine ⟨?_, ?_⟩; next => (intro w'; go_simp; (try (go_bits; go_simp)); (first | done | with_reducible rfl | (rw [if_neg (by omega)]; (try (go_bits; go_simp)); (first | done | with_reducible rfl)) | (rw [if_pos (by omega)]; (try (go_bits; go_simp)); (first | done | with_reducible rfl))))); (try simp only [Act.put, List.setIfInBounds_toArray, List.set_cons_zero, List.set_cons_succ])) | ((refine wpText_y rfl rfl ?_; apply Exists.intro; refine ⟨?_, ?_⟩; next => (intro w' hS; (first | obtain ⟨_, rfl⟩ := hS | skip); go_simp; (try (go_bits; go_simp)); (first | done | with_reducible rfl | (rw [if_neg (by omega)]; (try (go_bits; go_simp)); (first | done | with_reducible rfl)) | (rw [if_pos (by omega)]; (try (go_bits; go_simp)); (first | done | with_reducible rfl))))); (try simp only [Act.put, List.setIfInBounds_toArray, List.set_cons_zero, List.set_cons_succ])) | (refine wpText_skip (by first | exact .inl rfl | exact .inr (.inl rfl) | exact .inr (.inr rfl)) rfl ?_; (try simp only [Act.put, List.setIfInBounds_toArray, List.set_cons_zero, List.set_cons_succ])))
      refine wpText_nil ?_
      have ownW : ((wr.drew).alloc (.cells #[I64 x.1, I64 x.2] 73)).ownsRow (w.heap.size + 3) 73 2 (.slice vA k vc) k (partCells (l.take k)) := own_nil OWN.out (((Only.refl [] wr).drew).alloc _)
      have news : ∀ j u, [I64 x.1, I64 x.2][j]? = some u → ((wr.drew).alloc (.cells #[I64 x.1, I64 x.2] 73)).cell? ((⟨wr.heap.size, 0, none⟩ : Addr).add j) = some u := by
        intro j u hu
        rw [add_flat0, Nat.zero_add]
        exact (Blk.new wr.drew 73 [I64 x.1, I64 x.2]).cell hu
      go_wp2_with (at_builtin; refine wpList_append_own _ rfl (.tmp 18) (.tmp 32) 46 rfl (w.heap.size + 3) 73 i0 (.agg #[.int .i64 0, .int .i64 0]) 2 16 Try.underlying46 hi0 hz0 hs0 hb0 rfl (by decide) _ _ _ rfl ownW ⟨wr.heap.size, 0, none⟩ 1 1 [I64 x.1, I64 x.2] rfl rfl news (by simp [Value.oneCell']) (by unfold maxLen; omega) (by omega) (by simp; omega) ?_)
      intro v3 w3 hown3 hgrow _
      obtain ⟨A3, c3, rfl⟩ := own_shape hown3
      have onlyg : Only [] w w3 := (((HO.out.drew).alloc _).trans' (Only.of_grown (S := (Value.slice vA k vc).ownBlock.toList) hgrow (fun g hg => by rw [hg]; simp)) (fun i hi hlt' => by
        have hb : (Value.slice vA k vc).ownBlock = some i := by simpa using hi
        have := (OWN.out.lt i hb).1
        omega))
      have gr : ∀ {b : Nat} {t : TypeId} {cs : List Value}, Blk wr b t cs → b < w.heap.size + 3 → Blk w3 b t cs := fun hb hlt => ((hb.drew).alloc _).grown hgrow (fun e => by
        have := (OWN.out.lt _ e).1; omega)
      have m0 := hide (gr H0.out (by omega))
      have m1 := hide (gr H1.out (by omega))
      have m2 := hide (gr H2.out (by omega))
      have ONLY := hide onlyg
      have z2 := m2.out.cell (i := 2) rfl
      have f2 := m2.out.frozen 2
      have hl3 := m2.out.lt
      have hz3 := hgrow.size
      have hz3' : w.heap.size + 3 ≤ w3.heap.size := by simp at hz3; omega
      have HOWN3 := hide hown3
      clear gr onlyg hown3 hgrow news ownW x2 y2 g2 a0 a1 hz3
      go_wp2
      refine NoX.normal ?_
      go_wp2
      go_roundw
      case rel =>
        refine ⟨k + 1, by omega, by go_num, .slice A3 (k + 1) c3, m0.out.far (by dsimp only; omega) _, m1.out.far (by dsimp only; omega) _, m2.out.set 2 _, ?_, ONLY.out.set (.inr (by dsimp only; omega)) _, by simp [World.setCell]; omega⟩
        rw [hstep.out]
        exact own_setCell HOWN3.out (own_ne_blk HOWN3.out m2.out (by decide)) _
      case measure => simp [intOf]; omega
    · obtain rfl : k = n := by omega
      obtain ⟨vA, vc, rfl⟩ := own_shape own
      have hcap : k ≤ vc := by
        rcases own.2 with ⟨e, h0⟩ | ⟨g, c', cur, e, _, _, hc, _⟩
        · omega
        · injection e with _ _ e; omega
      rw [show l.take k = l from by rw [← HL.out]; exact List.take_length] at own
      have OWN := hide own
      have y0 := H2.out.cell (i := 0) rfl
      have y1 := H2.out.cell (i := 1) rfl
      have z0 := H1.out.cell (i := 0) rfl
      have z1 := H1.out.cell (i := 1) rfl
      have z2 := H1.out.cell (i := 2) rfl
      have q := H1.out.frozen
      have hl1 := H1.out.lt
      clear own
      go_wp2
      have hF := hide (((H1.out.set 0 (I64 W)).set 1 (I64 P)).set 2 (.slice vA k vc))
      have hOF : Only [] w (((wr.setCell ⟨w.heap.size + 1, 0, none⟩ (I64 W)).setCell ⟨w.heap.size + 1, 1, none⟩ (I64 P)).setCell ⟨w.heap.size + 1, 2, none⟩ (.slice vA k vc)) :=
        ((HO.out.set (.inr (by dsimp only; omega)) _).set (.inr (by dsimp only; omega)) _).set (.inr (by dsimp only; omega)) _
      have hOwn : (((wr.setCell ⟨w.heap.size + 1, 0, none⟩ (I64 W)).setCell ⟨w.heap.size + 1, 1, none⟩ (I64 P)).setCell ⟨w.heap.size + 1, 2, none⟩ (.slice vA k vc)).ownsRow (w.heap.size + 3) 73 2 (.slice vA k vc) k (partCells l) := by
        have hn := own_ne_blk OWN.out H1.out (by decide)
        exact own_setCell (own_setCell (own_setCell OWN.out hn _) hn _) hn _
      refine bodyPost_ret (v := .agg #[I64 W, I64 P, .slice vA k vc]) (results_cell_row rfl _ _ (w.heap.size + 1) _ _ _ _ rfl hF.out Try.underlying48 rfl (by kernel_rfl)) rfl ?_
      refine ⟨vA, vc, rfl, hcap, ?_, hOF⟩
      exact PartsIn.of_own HL.out hOwn

theorem rnew_no (W P : Int) (A : Option Addr) (l : List (Int × Int)) (cap : Nat) (w : World) (B : Nat) (hA : PartsIn w B A l) (hB : B ≤ w.heap.size) (hl : l.length ≤ 20) (hc : chk W P l ≠ 0) :
    Calls Try.prog 16 #[.agg #[I64 W, I64 P, .slice A l.length cap]] w fun e w' => e = .returned (.tuple #[.pointer none, I64 (chk W P l)]) ∧ Only [] w w' := by
  have hz : (chk W P l == 0) = false := by simpa using hc
  have ho := (Only.refl [] w).alloc (.cells #[I64 W, I64 P, .slice A l.length cap] 48)
  have hk := hide (rchk_ok W P A l cap _ B (hA.only ho hB) (Nat.le_trans hB ho.size) (by omega))
  have HO := hide ho
  clear hA ho
  go_enter Try.func16, Try.ntmps16
  go_wp2_with fail
  refine hk.out.mono ?_
  rintro e w1 ⟨rfl, ho⟩
  go_wp2
  go_ret2
  exact ⟨rfl, HO.out.trans ho⟩

theorem rmeter_build (W P : Int) (A : Option Addr) (n c : Nat) : ∀ w : World, (Instr.build 72 #[(0, .agg #[I64 W, I64 P, .slice A n c])]).run Try.prog w = .ok (.agg #[I64 W, I64 P, .slice A n c, .slice none 0 0, I64 0]) w := fun _ => by kernel_rfl

set_option maxHeartbeats 4000000 in
theorem rnew_yes (W P : Int) (A : Option Addr) (l : List (Int × Int)) (cap : Nat) (w : World) (B : Nat) (hA : PartsIn w B A l) (hB : B ≤ w.heap.size) (hcap : l.length ≤ cap) (hc : chk W P l = 0) :
    Calls Try.prog 16 #[.agg #[I64 W, I64 P, .slice A l.length cap]] w fun e w' => ∃ rb rp, e = .returned (.tuple #[.pointer (some ⟨rb, 0, none⟩), I64 0]) ∧
      RIs w' w.heap.size rb rp (Mtr.new ⟨W.toNat, P.toNat, l⟩) ∧ Only [] w w' := by
  obtain ⟨hok, hW, hP⟩ := chk_zero hc
  obtain ⟨i0, hi0, hz0, hs0, hb0⟩ := info_parts rpart_info
  have hl1 : 1 ≤ l.length := hok.2.2.2.2.1
  have hl8 : l.length ≤ 8 := hok.2.2.2.2.2.1
  obtain ⟨ab, ao, rfl, hab, _⟩ := hA 0 l[0] (List.getElem?_eq_getElem (by omega))
  have ho := (Only.refl [] w).alloc (.cells #[I64 W, I64 P, .slice (some ⟨ab, ao, none⟩) l.length cap] 48)
  have hk := hide (rchk_ok W P _ l cap _ B (hA.only ho hB) (Nat.le_trans hB ho.size) (by omega))
  rw [hc] at hk
  have HB0 := hide (Blk.new w 48 [I64 W, I64 P, .slice (some ⟨ab, ao, none⟩) l.length cap])
  have HO := hide ho
  have HA := hide hA
  have HW := hide hW
  have HP := hide hP
  clear hA hc ho hW hP hok
  go_enter Try.func16, Try.ntmps16
  go_wp2_with fail
  refine hk.out.mono ?_
  rintro e w1 ⟨rfl, ho1⟩
  have HB1 := hide (ho1.blk HB0.out (by simp))
  have HO1 := hide (HO.out.trans ho1)
  have HA1 := hide (HA.out.only HO1.out hB)
  have e0 := HB1.out.cell (i := 0) rfl
  have e1 := HB1.out.cell (i := 1) rfl
  have e2 := HB1.out.cell (i := 2) rfl
  have hbm := rmeter_build W P
  have hz1 := HO1.out.size
  have hz0' := HB1.out.lt
  have hlit := World.ownsRow_lit (base := w1.heap.size) (e := 73) (size := 2) w1 #[] 0 (Nat.le_refl _) (by simp [maxLen]) rfl
  have hnews := (HA1.out.only ((Only.refl [] w1).alloc (.cells #[] 73)) (Nat.le_trans hB hz1)).news
  clear ho1
  go_wp2_with (at_builtin; refine wpList_append_own _ rfl (.tmp 10) (.tmp 12) 46 rfl w1.heap.size 73 i0 (.agg #[.int .i64 0, .int .i64 0]) 2 16 Try.underlying46 hi0 hz0 hs0 hb0 rfl (by decide) _ _ _ rfl hlit ⟨ab, ao, none⟩ l.length cap (partCells l) rfl (by rw [partCells_len]) hnews (partCells_one l) (by unfold maxLen; omega) (by omega) (by simp) ?_)
  intro v3 w3 hown3 hgrow _
  try simp only [Nat.zero_add, List.nil_append] at hown3
  have only3 : Only [] w1 w3 := ((Only.refl [] w1).alloc (.cells #[] 73)).trans' (Only.of_grown (S := [w1.heap.size]) hgrow (fun g hg => by injection hg with hg; exact List.mem_singleton.2 hg.symm)) (fun i hi h => by rw [List.mem_singleton.1 hi] at h; exact absurd h (Nat.lt_irrefl _))
  have HB3 := hide (only3.blk HB1.out (by simp))
  have HOWN := hide hown3
  rcases hown3.2 with ⟨_, h0⟩ | ⟨g, cap3, cur, rfl, hg, hh, _⟩
  · omega
  have hcell3 := fun j => HOWN.out.cellAt (j := j)
  have HPA : Hid (RParts w3 g l) := hide ⟨cur.toList, by simpa [Blk] using hh, fun i x hx => by
    have hi : i < l.length := (List.getElem?_eq_some_iff.1 hx).1
    have q0 := hcell3 (i * 2) (by omega)
    have q1 := hcell3 (i * 2 + 1) (by omega)
    rw [(partCells_at l i x hx).1, cell_of_row w3 g _ cur _ _ hh] at q0
    rw [(partCells_at l i x hx).2, cell_of_row w3 g _ cur _ _ hh] at q1
    exact ⟨by simpa using q0, by simpa using q1⟩⟩
  have HO3 := hide (HO1.out.trans only3)
  have f0 := HB3.out.cell (i := 0) rfl
  have f1 := HB3.out.cell (i := 1) rfl
  have f2 := HB3.out.cell (i := 2) rfl
  have ff := HB3.out.frozen
  have hl3 := HB3.out.lt
  have hz3 := only3.size
  have hgb : w.heap.size ≠ g := by omega
  clear hcell3 hown3 hgrow hh only3 hnews hlit e0 e1 e2
  go_wp2
  go_ret2
  refine ⟨_, g, rfl, ⟨cap3, .slice none 0 0, ?_, ?_, World.ownsRow_nil _ _ _ _, ?_⟩, ?_⟩
  · refine Blk.to (Blk.new' _ _ _ (by simp [World.setCell])) ?_
    simp [refCells, Mtr.new, HW.out, HP.out]
  · exact (HPA.out.only ((Only.refl [w.heap.size] w3).set (.inl (by simp)) _) (by simp; omega)).only ((Only.refl [] _).alloc _) (by simp)
  · omega
  · exact (HO3.out.set (.inr (Nat.le_refl _)) _).alloc _

end Go.Proofs.Ytpeaojkbfllakaa
