/- New; the examples hold. -/
import Derived.Test.YtpeaojkbfllakaaWalkI
import Derived.Laws.AppendOwn
import Derived.Laws.OwnMore
import Derived.OwnWalk
namespace Go.Proofs.Ytpeaojkbfllakaa
open Go.RowKit

def Mtr.new (c : Cfg) : Mtr := ⟨c, [], 0⟩
theorem Mtr.Inv.new {c : Cfg} (h : c.ok) : (Mtr.new c).Inv where
  cfg := h
  times := fun x hx => by simp [Mtr.new] at hx
  parts := fun x hx => by simp [Mtr.new] at hx
  now0 := by simp [Mtr.new]
  now1 := by simp [Mtr.new]
  most := fun t => by simp [Mtr.new, Mtr.tickv]

theorem chk_zero {W P : Int} {l : List (Int × Int)} (h : chk W P l = 0) : Cfg.ok ⟨W.toNat, P.toNat, l⟩ ∧ ((W.toNat : Nat) : Int) = W ∧ ((P.toNat : Nat) : Int) = P := by
  unfold chk at h
  split at h
  · omega
  rename_i a
  split at h
  · omega
  rename_i b
  split at h
  · omega
  rename_i c
  split at h
  · omega
  rename_i d
  split at h
  · rename_i e
    refine ⟨⟨by show 1 ≤ W.toNat; omega, by show W.toNat ≤ 1000; omega, by show 1 ≤ P.toNat; omega, by show P.toNat ≤ 8; omega, by show 1 ≤ l.length; omega, by show l.length ≤ 8; omega, fun x hx => ?_, e⟩, by omega, by omega⟩
    have : ¬ badP x := fun hb => d ⟨x, hx, hb⟩
    unfold badP at this
    omega
  · omega

def meterCells (W P s : Int) (pv : Value) : List Value := I64 W :: I64 P :: pv :: I64 s :: List.replicate 16018 (I64 0)
theorem meterCells_at (W P s : Int) (pv : Value) {j : Nat} (h0 : 4 ≤ j) (h : j < 16022) : (meterCells W P s pv).getD j undef = I64 0 := by
  unfold meterCells
  obtain ⟨i, rfl⟩ : ∃ i, j = i + 1 + 1 + 1 + 1 := ⟨j - 4, by omega⟩
  rw [List.getD_cons_succ, List.getD_cons_succ, List.getD_cons_succ, List.getD_cons_succ, List.getD_eq_getElem?_getD, List.getElem?_replicate, if_pos (by omega)]
  rfl
theorem meterCells_len (W P s : Int) (pv : Value) : (meterCells W P s pv).length = 16022 := by
  unfold meterCells
  rw [List.length_cons, List.length_cons, List.length_cons, List.length_cons, List.length_replicate]
set_option maxRecDepth 1000000 in
theorem build_meter (W P s : Int) (A : Option Addr) (n c : Nat) : ∀ w : World, (Instr.build 62 #[(0, I64 W), (3, I64 s), (1, I64 P), (2, .slice A n c)]).run Try.prog w = .ok (.agg (meterCells W P s (.slice A n c)).toArray) w := fun _ => by kernel_rfl

theorem build_step (W P s : Int) (A : Option Addr) (n c : Nat) (w : World) (ev : Operand → Value) (o : Oper) (ho : o.op = .build 62 #[(0, .tmp 11), (3, .tmp 14), (1, .tmp 16), (2, .tmp 20)])
    (h0 : ev (.tmp 11) = I64 W) (h3 : ev (.tmp 14) = I64 s) (h1 : ev (.tmp 16) = I64 P) (h2 : ev (.tmp 20) = .slice A n c) :
    (execOp ev o).run Try.prog w = .ok (.value (.agg (meterCells W P s (.slice A n c)).toArray)) w := by
  unfold execOp
  rw [ho]
  have e : (#[(0, .tmp 11), (3, .tmp 14), (1, .tmp 16), (2, .tmp 20)] : Array (Nat × Operand)).map (fun (i, x) => (i, ev x)) = #[(0, I64 W), (3, I64 s), (1, I64 P), (2, .slice A n c)] := by
    simp [h0, h1, h2, h3]
  dsimp only
  rw [e, Sem.run_bind, build_meter]
  rfl

theorem partCells_at (l : List (Int × Int)) : ∀ (i : Nat) (x : Int × Int), l[i]? = some x → (partCells l)[i * 2]? = some (I64 x.1) ∧ (partCells l)[i * 2 + 1]? = some (I64 x.2) := by
  induction l with
  | nil => intro i x h; simp at h
  | cons y l ih =>
    intro i x h
    cases i with
    | zero => simp at h; subst h; exact ⟨rfl, rfl⟩
    | succ i =>
      simp only [List.getElem?_cons_succ] at h
      obtain ⟨h1, h2⟩ := ih i x h
      refine ⟨?_, ?_⟩
      · rw [show (i + 1) * 2 = i * 2 + 2 from by omega]; exact h1
      · rw [show (i + 1) * 2 + 1 = (i * 2 + 1) + 2 from by omega]; exact h2
theorem partCells_len (l : List (Int × Int)) : (partCells l).length = l.length * 2 := by
  induction l with
  | nil => rfl
  | cons x l ih => show (partCells l).length + 1 + 1 = _; rw [ih]; simp; omega
theorem partCells_one (l : List (Int × Int)) : ∀ u ∈ partCells l, u.oneCell' = true := by
  intro u hu
  simp only [partCells, List.mem_flatMap] at hu
  obtain ⟨x, _, hu⟩ := hu
  simp at hu
  rcases hu with rfl | rfl <;> rfl
theorem partCells_get (l : List (Int × Int)) {j : Nat} {u : Value} (h : (partCells l)[j]? = some u) : ∃ x, l[j / 2]? = some x ∧ u = if j % 2 = 0 then I64 x.1 else I64 x.2 := by
  have hj : j < l.length * 2 := by have := (List.getElem?_eq_some_iff.1 h).1; rwa [partCells_len] at this
  refine ⟨l[j / 2], List.getElem?_eq_getElem (by omega), ?_⟩
  obtain ⟨h1, h2⟩ := partCells_at l (j / 2) l[j / 2] (List.getElem?_eq_getElem (by omega))
  rcases Nat.mod_two_eq_zero_or_one j with e | e
  · rw [show j / 2 * 2 = j by omega, h] at h1
    rw [if_pos e]; injection h1
  · rw [show j / 2 * 2 + 1 = j by omega, h] at h2
    rw [if_neg (by omega)]; injection h2
theorem add_flat0 (b o j : Nat) : (⟨b, o, none⟩ : Addr).add j = ⟨b, o + j, none⟩ := by
  unfold Addr.add; split
  · rename_i h0; subst h0; rfl
  · rfl
theorem PartsIn.news {w : World} {B b o : Nat} {l : List (Int × Int)} (h : PartsIn w B (some ⟨b, o, none⟩) l) : ∀ j u, (partCells l)[j]? = some u → w.cell? ((⟨b, o, none⟩ : Addr).add j) = some u := by
  intro j u hu
  obtain ⟨x, hx, hv⟩ := partCells_get l hu
  obtain ⟨b', o', hA, _, h0, h1⟩ := h _ x hx
  injection hA with hA
  injection hA with e1 e2 _
  subst e1 e2
  rw [add_flat0, hv]
  rcases Nat.mod_two_eq_zero_or_one j with e | e
  · rw [if_pos e]; rw [show o + j / 2 * 2 = o + j by omega] at h0; exact h0
  · rw [if_neg (by omega)]; rw [show o + j / 2 * 2 + 1 = o + j by omega] at h1; exact h1

theorem part_info : (Try.prog.info? 64).map (fun i => (i.zero, i.size, i.bytes)) = some (some (.agg #[.int .i64 0, .int .i64 0]), 2, 16) := by kernel_rfl

theorem new_cells {W P : Int} {l : List (Int × Int)} (hW : ((W.toNat : Nat) : Int) = W) (hP : ((P.toNat : Nat) : Int) = P) (hW1 : 1 ≤ W) (pv : Value) : ∀ j, j < 16022 →
    (meterCells W P (W - 1) pv).getD j undef = mcell (Mtr.new ⟨W.toNat, P.toNat, l⟩) pv ((Mtr.new ⟨W.toNat, P.toNat, l⟩).tickv (Mtr.new ⟨W.toNat, P.toNat, l⟩).now) j := by
  refine mcell_ext (m := Mtr.new ⟨W.toNat, P.toNat, l⟩) (ch := 0) rfl (fun j hj => ?_) (fun s r hs hr => ?_) (fun r hr => ?_) ?_ ?_
  · match j, hj with
    | 0, _ => show I64 W = I64 ((W.toNat : Nat) : Int); rw [hW]
    | 1, _ => show I64 P = I64 ((P.toNat : Nat) : Int); rw [hP]
    | 2, _ => rfl
    | 3, _ => show I64 (W - 1) = I64 ((W.toNat - 1 : Nat) : Int); congr 1; omega
  · rw [meterCells_at _ _ _ _ (by omega) (by omega)]; rfl
  · rw [meterCells_at _ _ _ _ (by omega) (by omega)]; rfl
  · rw [meterCells_at _ _ _ _ (by omega) (by omega)]; rfl
  · rw [meterCells_at _ _ _ _ (by omega) (by omega)]; rfl

theorem new_no (W P : Int) (A : Option Addr) (l : List (Int × Int)) (cap : Nat) (w : World) (B : Nat) (hA : PartsIn w B A l) (hB : B ≤ w.heap.size) (hl : l.length ≤ 9223372036854775807) (hc : chk W P l ≠ 0) :
    Calls Try.prog 8 #[.agg #[I64 W, I64 P, .slice A l.length cap]] w fun e w' => e = .returned (.tuple #[.pointer none, I64 (chk W P l)]) ∧ Only [] w w' := by
  have hz : (chk W P l == 0) = false := by simpa using hc
  have ho := (Only.refl [] w).alloc (.cells #[I64 W, I64 P, .slice A l.length cap] 24)
  have hk := hide (chk_ok W P A l cap _ B (hA.only ho hB) (Nat.le_trans hB ho.size) hl)
  have HO := hide ho
  clear hA hc ho
  go_enter Try.func8, Try.ntmps8
  go_wp2_with fail
  refine hk.out.mono ?_
  rintro e w1 ⟨rfl, ho⟩
  go_wp2
  go_ret2
  exact ⟨rfl, HO.out.trans ho⟩

set_option maxHeartbeats 4000000 in
theorem new_yes (W P : Int) (A : Option Addr) (l : List (Int × Int)) (cap : Nat) (w : World) (B : Nat) (hA : PartsIn w B A l) (hB : B ≤ w.heap.size) (hcap : l.length ≤ cap) (hc : chk W P l = 0) :
    Calls Try.prog 8 #[.agg #[I64 W, I64 P, .slice A l.length cap]] w fun e w' => ∃ b pb, e = .returned (.tuple #[.pointer (some ⟨b, 0, none⟩), I64 0]) ∧
      MtrIs w' b pb (Mtr.new ⟨W.toNat, P.toNat, l⟩) ∧ w.heap.size ≤ b ∧ w.heap.size ≤ pb ∧ Only [] w w' := by
  obtain ⟨hok, hW, hP⟩ := chk_zero hc
  obtain ⟨i0, hi0, hz0, hs0, hb0⟩ := info_parts part_info
  have hl1 : 1 ≤ l.length := hok.2.2.2.2.1
  have hl8 : l.length ≤ 8 := hok.2.2.2.2.2.1
  have hW1 : 1 ≤ W ∧ W ≤ 1000 := by have := hok.1; have := hok.2.1; dsimp only at *; omega
  have hP1 : 1 ≤ P ∧ P ≤ 8 := by have := hok.2.2.1; have := hok.2.2.2.1; dsimp only at *; omega
  obtain ⟨ab, ao, rfl, hab, _⟩ := hA 0 l[0] (List.getElem?_eq_getElem (by omega))
  have ho := (Only.refl [] w).alloc (.cells #[I64 W, I64 P, .slice (some ⟨ab, ao, none⟩) l.length cap] 24)
  have hk := hide (chk_ok W P _ l cap _ B (hA.only ho hB) (Nat.le_trans hB ho.size) (by omega))
  rw [hc] at hk
  have HB0 := hide (Blk.new w 24 [I64 W, I64 P, .slice (some ⟨ab, ao, none⟩) l.length cap])
  have HO := hide ho
  have HA := hide hA
  have HW := hide hW
  have HP := hide hP
  have HOK := hide hok
  clear hA hc ho hW hP hok
  go_enter Try.func8, Try.ntmps8
  go_wp2_with fail
  refine hk.out.mono ?_
  rintro e w1 ⟨rfl, ho1⟩
  have HB1 := hide (ho1.blk HB0.out (by simp))
  have HO1 := hide (HO.out.trans ho1)
  have HA1 := hide (HA.out.only HO1.out hB)
  have e0 := HB1.out.cell (i := 0) rfl
  have e1 := HB1.out.cell (i := 1) rfl
  have e2 := HB1.out.cell (i := 2) rfl
  have hbm := build_meter W P (W - 1) 
  have hz1 := HO1.out.size
  have hz0' := HB1.out.lt
  clear ho1
  go_wp2
  refine wp_region_text 12 [7, 10] [0, 2, 4, 5, 8] [1, 3, 6, 9] (fun w' => w'.cell? ⟨w.heap.size, 0, none⟩ = some (I64 W) ∧ w'.cell? ⟨w.heap.size, 1, none⟩ = some (I64 P) ∧ w'.cell? ⟨w.heap.size, 2, none⟩ = some (.slice (some ⟨ab, ao, none⟩) l.length cap)) (by kernel_rfl) (by kernel_rfl) ⟨e0, e1, e2⟩ ?_
  simp only [List.take_succ_cons, List.take_zero, List.drop_succ_cons, List.drop_zero]
  repeat (first | ((refine wpText_h rfl rfl ?_; apply Exists.intro; refine ⟨?_, ?_⟩; next => (go_simp; (try (go_bits; go_simp)); (first | done | with_reducible rfl | (rw [if_neg (by omega)]; (try (go_bits; go_simp)); (first | done | with_reducible rfl)) | (rw [if_pos (by omega)]; (try (go_bits; go_simp)); (first | done | with_reducible rfl))))); (try simp only [Act.put, List.setIfInBounds_toArray, List.set_cons_zero, List.set_cons_succ])) | ((refine wpText_p rfl rfl ?_; apply Exists.intro; refine ⟨?_, ?_⟩; next => (intro w'; go_simp; (try (go_bits; go_simp)); (first | done | with_reducible rfl | (rw [if_neg (by omega)]; (try (go_bits; go_simp)); (first | done | with_reducible rfl)) | (rw [if_pos (by omega)]; (try (go_bits; go_simp)); (first | done | with_reducible rfl))))); (try simp only [Act.put, List.setIfInBounds_toArray, List.set_cons_zero, List.set_cons_succ])) | ((refine wpText_y rfl rfl ?_; apply Exists.intro; refine ⟨?_, ?_⟩; next => (intro w' hS; (first | obtain ⟨_, rfl⟩ := hS | skip); go_simp; (try (go_bits; go_simp)); (first | done | with_reducible rfl | (rw [if_neg (by omega)]; (try (go_bits; go_simp)); (first | done | with_reducible rfl)) | (rw [if_pos (by omega)]; (try (go_bits; go_simp)); (first | done | with_reducible rfl))))); (try simp only [Act.put, List.setIfInBounds_toArray, List.set_cons_zero, List.set_cons_succ])) | (refine wpText_skip (by first | exact .inl rfl | exact .inr (.inl rfl) | exact .inr (.inr rfl)) rfl ?_; (try simp only [Act.put, List.setIfInBounds_toArray, List.set_cons_zero, List.set_cons_succ])))
  refine wpText_e rfl rfl (fun K hK => ?_)
  go_wp2
  refine hK _ _ ⟨by go_simp, by go_simp, by go_simp⟩ ?_
  clear hK K
  (try simp only [Act.put, List.setIfInBounds_toArray, List.set_cons_zero, List.set_cons_succ])
  repeat (first | ((refine wpText_h rfl rfl ?_; apply Exists.intro; refine ⟨?_, ?_⟩; next => (go_simp; (try (go_bits; go_simp)); (first | done | with_reducible rfl | (rw [if_neg (by omega)]; (try (go_bits; go_simp)); (first | done | with_reducible rfl)) | (rw [if_pos (by omega)]; (try (go_bits; go_simp)); (first | done | with_reducible rfl))))); (try simp only [Act.put, List.setIfInBounds_toArray, List.set_cons_zero, List.set_cons_succ])) | ((refine wpText_p rfl rfl ?_; apply Exists.intro; refine ⟨?_, ?_⟩; next => (intro w'; go_simp; (try (go_bits; go_simp)); (first | done | with_reducible rfl | (rw [if_neg (by omega)]; (try (go_bits; go_simp)); (first | done | with_reducible rfl)) | (rw [if_pos (by omega)]; (try (go_bits; go_simp)); (first | done | with_reducible rfl))))); (try simp only [Act.put, List.setIfInBounds_toArray, List.set_cons_zero, List.set_cons_succ])) | ((refine wpText_y rfl rfl ?_; apply Exists.intro; refine ⟨?_, ?_⟩; next => (intro w' hS; (first | obtain ⟨_, rfl⟩ := hS | skip); go_simp; (try (go_bits; go_simp)); (first | done | with_reducible rfl | (rw [if_neg (by omega)]; (try (go_bits; go_simp)); (first | done | with_reducible rfl)) | (rw [if_pos (by omega)]; (try (go_bits; go_simp)); (first | done | with_reducible rfl))))); (try simp only [Act.put, List.setIfInBounds_toArray, List.set_cons_zero, List.set_cons_succ])) | (refine wpText_skip (by first | exact .inl rfl | exact .inr (.inl rfl) | exact .inr (.inr rfl)) rfl ?_; (try simp only [Act.put, List.setIfInBounds_toArray, List.set_cons_zero, List.set_cons_succ])))
  have hlit := World.ownsRow_lit (base := w1.drew.heap.size) (e := 64) (size := 2) w1.drew #[] 0 (Nat.le_refl _) (by simp [maxLen]) rfl
  have hnews := (HA1.out.only (((Only.refl [] w1).drew).alloc (.cells #[] 64)) (Nat.le_trans hB hz1)).news
  refine wpText_e rfl rfl (fun K hK => ?_)
  refine wp_append_own _ (.tmp 17) (.tmp 19) 22 rfl w1.drew.heap.size 64 i0 (.agg #[.int .i64 0, .int .i64 0]) 2 16 Try.underlying22 hi0 hz0 hs0 hb0 rfl (by decide) _ _ _ rfl hlit ⟨ab, ao, none⟩ l.length cap (partCells l) rfl (by rw [partCells_len]) hnews (partCells_one l) (by unfold maxLen; omega) (by omega) (by simp) ?_
  intro v3 w3 hown3 hgrow _
  try simp only [Nat.zero_add, List.nil_append] at hown3
  have only3 : Only [] w1 w3 := (((Only.refl [] w1).drew).alloc (.cells #[] 64)).trans' (Only.of_grown (S := [w1.drew.heap.size]) hgrow (fun g hg => by injection hg with hg; exact List.mem_singleton.2 hg.symm)) (fun i hi h => by rw [List.mem_singleton.1 hi] at h; exact absurd h (Nat.lt_irrefl _))
  have HB3 := hide (only3.blk HB1.out (by simp))
  refine hK _ _ ⟨HB3.out.cell rfl, HB3.out.cell rfl, HB3.out.cell rfl⟩ ?_
  clear hK K
  (try simp only [Act.put, List.setIfInBounds_toArray, List.set_cons_zero, List.set_cons_succ])
  have HOWN := hide hown3
  rcases hown3.2 with ⟨_, h0⟩ | ⟨g, cap3, cur, rfl, hg, hh, _⟩
  · omega
  have hcell3 := fun j => HOWN.out.cellAt (j := j)
  have HPA : Hid (Parts w3 g l) := hide ⟨cur.toList, by simpa [Blk] using hh, fun i x hx => by
    have hi : i < l.length := (List.getElem?_eq_some_iff.1 hx).1
    have q0 := hcell3 (i * 2) (by omega)
    have q1 := hcell3 (i * 2 + 1) (by omega)
    rw [(partCells_at l i x hx).1, cell_of_row w3 g _ cur _ _ hh] at q0
    rw [(partCells_at l i x hx).2, cell_of_row w3 g _ cur _ _ hh] at q1
    exact ⟨by simpa using q0, by simpa using q1⟩⟩
  have HO3 := hide (HO1.out.trans only3)
  have hg' : w.heap.size ≤ g := by simp at hg; omega
  have hz3 := only3.size
  clear hcell3 hown3 hgrow hh only3 hnews hlit e0 e1 e2
  refine wpText_h rfl rfl ⟨.agg (meterCells W P (W - 1) (.slice (some ⟨g, 0, none⟩) l.length cap3)).toArray, ?_, ?_⟩
  · exact build_step W P (W - 1) (some ⟨g, 0, none⟩) l.length cap3 w3 _ _ rfl rfl rfl rfl rfl
  simp only [Act.put, List.setIfInBounds_toArray, List.set_cons_zero, List.set_cons_succ]
  refine wpText_nil ?_
  go_wp2
  refine NoX.normal ?_
  go_wp2
  go_ret2
  refine ⟨w3.heap.size, g, rfl, ⟨cap3, ?_, ?_⟩, by omega, hg', HO3.out.alloc _⟩
  · refine (FBlk.of_list (Blk.new w3 _ (meterCells W P (W - 1) (.slice (some ⟨g, 0, none⟩) l.length cap3))) (meterCells_len _ _ _ _)).congr ?_
    exact new_cells HW.out HP.out hW1.1 _
  · exact HPA.out.only ((Only.refl [] w3).alloc _) (by simp)

end Go.Proofs.Ytpeaojkbfllakaa
