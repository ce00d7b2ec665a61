/- The program's meter in memory; its small functions. -/
import Derived.Test.YtpeaojkbfllakaaRows
import Derived.Test.YtpeaojkbfllakaaWords
import Derived.Test.YtpeaojkbfllakaaDraw
import Derived.Test.YtpeaojkbfllakaaFblk
import Derived.Test.YtpeaojkbfllakaaModel
import Derived.WalkLawsBesides
import Derived.Deep.QuietTactic
import Derived.BigQuiet
import Derived.BigRegion
import Derived.IntWalk
import Derived.StillTailTactics
import Derived.Deep.RegionWith
import Derived.Deep.RegionHeld3
import Derived.Test.YtpeaojkbfllakaaEqs
import Derived.Outline
namespace Go.Proofs.Ytpeaojkbfllakaa
open Go.RowKit

abbrev I64 (n : Int) : Value := .int .i64 n

def partCells (l : List (Int × Int)) : List Value := l.flatMap fun x => [I64 x.1, I64 x.2]

def mcell (m : Mtr) (pv : Value) (ch : Int) (j : Nat) : Value :=
  if j = 0 then I64 m.cfg.W else if j = 1 then I64 m.cfg.P else if j = 2 then pv else if j = 3 then I64 ((m.cfg.W - 1 : Nat) : Int)
  else if j < 16004 then I64 (m.slotv ((j - 4) / 16) ((j - 4) % 8) (decide (8 ≤ (j - 4) % 16)))
  else if j < 16020 then I64 (m.sumv ((j - 16004) % 8) (decide (8 ≤ j - 16004)))
  else if j = 16020 then I64 m.now else I64 ch

theorem at_ok (b sp : Nat) (f : Nat → Value) (t : Int) (w : World) (h : FBlk w b 62 16022 f) (h3 : f 3 = I64 sp) (hs : sp < 1000) (h0 : 0 ≤ t) (h1 : t ≤ 1099511627777) :
    Calls Try.prog 24 #[.pointer (some ⟨b, 0, none⟩), I64 t] w
      fun e w' => e = .returned (.pointer (some ⟨b, 4 + t.toNat % (sp + 1) * 16, none⟩)) ∧ ∃ n, w' = w.drewN n := by
  obtain ⟨t, rfl⟩ := Int.eq_ofNat_of_zero_le h0
  have c3 := h.cell' (i := 3) (by omega) h3
  have hm0 : (0 : Int) ≤ (t : Int) % (sp + 1) := Int.emod_nonneg _ (by omega)
  have hm1 : (t : Int) % (sp + 1) < sp + 1 := Int.emod_lt_of_pos _ (by omega)
  clear h h3
  go_enter Try.func24, Try.ntmps24
  go_wp2
  refine wp_region_text0 12 [] [] [] (fun _ => True) (by kernel_rfl) (by kernel_rfl) trivial ?_
  repeat (first | ((refine wpText_h rfl rfl ?_; apply Exists.intro; refine ⟨?_, ?_⟩; next => (go_simp; (try (go_bits; go_simp)); (first | done | with_reducible rfl | (rw [if_neg (by omega)]; (try (go_bits; go_simp)); (first | done | with_reducible rfl)) | (rw [if_pos (by omega)]; (try (go_bits; go_simp)); (first | done | with_reducible rfl))))); (try simp only [Act.put, List.setIfInBounds_toArray, List.set_cons_zero, List.set_cons_succ])) | ((refine wpText_p rfl rfl ?_; apply Exists.intro; refine ⟨?_, ?_⟩; next => (intro w'; go_simp; (try (go_bits; go_simp)); (first | done | with_reducible rfl | (rw [if_neg (by omega)]; (try (go_bits; go_simp)); (first | done | with_reducible rfl)) | (rw [if_pos (by omega)]; (try (go_bits; go_simp)); (first | done | with_reducible rfl))))); (try simp only [Act.put, List.setIfInBounds_toArray, List.set_cons_zero, List.set_cons_succ])) | ((refine wpText_y rfl rfl ?_; apply Exists.intro; refine ⟨?_, ?_⟩; next => (intro w' hS; (first | obtain ⟨_, rfl⟩ := hS | skip); go_simp; (try (go_bits; go_simp)); (first | done | with_reducible rfl | (rw [if_neg (by omega)]; (try (go_bits; go_simp)); (first | done | with_reducible rfl)) | (rw [if_pos (by omega)]; (try (go_bits; go_simp)); (first | done | with_reducible rfl))))); (try simp only [Act.put, List.setIfInBounds_toArray, List.set_cons_zero, List.set_cons_succ])) | (refine wpText_skip (by first | exact .inl rfl | exact .inr (.inl rfl) | exact .inr (.inr rfl)) rfl ?_; (try simp only [Act.put, List.setIfInBounds_toArray, List.set_cons_zero, List.set_cons_succ])))
  refine wpText_nil ?_
  go_wp2
  go_ret
  exact ⟨by simp, ⟨_, rfl⟩⟩

def slotVals (sv : Nat → Int) : List Value := (List.range 16).map fun j => I64 (sv j)
def addf (f : Nat → Value) (su sv : Nat → Int) (by_ : Int) (n : Nat) (j : Nat) : Value :=
  if 16004 ≤ j ∧ j < 16020 ∧ (j - 16004) % 8 < n then I64 (su (j - 16004) + by_ * sv (j - 16004)) else f j

def allz (sv : Nat → Int) (o : Nat) : Bool := (List.range 8).all fun j => sv (o + j) == 0
theorem allz_iff {sv : Nat → Int} {o : Nat} : allz sv o = true ↔ ∀ j, j < 8 → sv (o + j) = 0 := by simp [allz]

theorem slot_eq (sv : Nat → Int) (o : Nat) (w : World) (zs : List Value) (hz : zs = (List.range 8).map fun j => I64 (sv (o + j))) :
    (Op.equalIn 9999 57 (.agg zs.toArray) (.agg #[.int .i64 0, .int .i64 0, .int .i64 0, .int .i64 0, .int .i64 0, .int .i64 0, .int .i64 0, .int .i64 0])).run Try.prog w = .ok (allz sv o) w := by
  subst hz
  obtain ⟨i0, hi0⟩ := info_of_underlying Try.underlying57
  obtain ⟨i1, hi1⟩ := info_of_underlying Try.underlying3
  have := run_equal_ints (P := Try.prog) (d := 9997) Try.underlying57 Try.underlying3 hi1 (by kernel_rfl) ((List.range 8).map fun j => sv (o + j)) [0, 0, 0, 0, 0, 0, 0, 0] (by simp) (by simp) w
  simp only [List.map_map] at this
  refine this.trans ?_
  congr 1
  rw [Bool.eq_iff_iff, allz_iff, decide_eq_true_eq]
  constructor
  · intro h j hj
    simp [List.range, List.range.loop] at h
    obtain ⟨h0, h1, h2, h3, h4, h5, h6, h7⟩ := h
    match j, hj with
    | 0, _ => simpa using h0
    | 1, _ => exact h1
    | 2, _ => exact h2
    | 3, _ => exact h3
    | 4, _ => exact h4
    | 5, _ => exact h5
    | 6, _ => exact h6
    | 7, _ => exact h7
  · intro h
    have h0 := h 0 (by omega)
    simp [List.range, List.range.loop]
    exact ⟨by simpa using h0, h 1 (by omega), h 2 (by omega), h 3 (by omega), h 4 (by omega), h 5 (by omega), h 6 (by omega), h 7 (by omega)⟩

theorem slotVals_at (sv : Nat → Int) {k : Nat} (h : k < 16) : (slotVals sv)[k]? = some (I64 (sv k)) := by
  unfold slotVals; rw [List.getElem?_map, List.getElem?_range h]; rfl

def AddRel (b : Nat) (f : Nat → Value) (su sv : Nat → Int) (by_ : Int) (w : World) (k : Nat) (wr : World) : Prop :=
  Only [b] w wr ∧ FBlk wr b 62 16022 (addf f su sv by_ k) ∧ Blk wr w.heap.size 59 (slotVals sv)

theorem addf_step (f : Nat → Value) (su sv : Nat → Int) (by_ : Int) (k : Nat) (hk : k < 8) (j : Nat) :
    (if j = 16012 + k then I64 (su (8 + k) + by_ * sv (8 + k)) else if j = 16004 + k then I64 (su k + by_ * sv k) else addf f su sv by_ k j) = addf f su sv by_ (k + 1) j := by
  unfold addf
  by_cases h1 : j = 16012 + k
  · subst h1
    rw [if_pos rfl, if_pos (by omega), show 16012 + k - 16004 = 8 + k from by omega]
  rw [if_neg h1]
  by_cases h2 : j = 16004 + k
  · subst h2
    rw [if_pos rfl, if_pos (by omega), show 16004 + k - 16004 = k from by omega]
  rw [if_neg h2]
  by_cases h3 : 16004 ≤ j ∧ j < 16020 ∧ (j - 16004) % 8 < k
  · rw [if_pos h3, if_pos (by omega)]
  · rw [if_neg h3, if_neg (by omega)]

set_option maxHeartbeats 2000000 in
theorem add_ok (b pb n cap : Nat) (f : Nat → Value) (su sv : Nat → Int) (by_ : Int) (w : World) (h : FBlk w b 62 16022 f) (h2 : f 2 = .slice (some ⟨pb, 0, none⟩) n cap)
    (hsu : ∀ j, j < 16 → f (16004 + j) = I64 (su j)) (hb : by_ = 1 ∨ by_ = -1) (hn : n ≤ 8) (hs0 : ∀ j, 0 ≤ su j ∧ su j ≤ 10000) (hv0 : ∀ j, 0 ≤ sv j ∧ sv j ≤ 10000) :
    Calls Try.prog 34 #[.pointer (some ⟨b, 0, none⟩), .agg (slotVals sv).toArray, I64 by_] w
      fun e w' => e = .returned (.tuple #[]) ∧ Only [b] w w' ∧ FBlk w' b 62 16022 (addf f su sv by_ n) := by
  have hbx := Blk.new w 59 (slotVals sv)
  have hbl := h.lt
  have hE1 := fun w => slot_eq sv 0 w (List.take 8 (slotVals sv)) (by simp [slotVals, List.range, List.range.loop])
  have hE2 := fun w => slot_eq sv 8 w (List.take 8 (List.drop 8 (slotVals sv))) (by simp [slotVals, List.range, List.range.loop])
  have hst : AddRel b f su sv by_ w 0 (w.alloc (.cells (slotVals sv).toArray 59)) := ⟨(Only.refl _ _).alloc _, (h.alloc _).congr (fun j _ => by unfold addf; rw [if_neg (by omega)]), hbx⟩
  have HST := hide hst
  have c2 := (h.alloc (.cells (slotVals sv).toArray 59)).cell' (i := 2) (by omega) h2
  have HSU := hide hsu
  have HS0 := hide hs0
  have HV0 := hide hv0
  have HBX := hide hbx
  clear hst hsu hs0 hv0 hbx h h2
  by_cases zz : allz sv 0 = true ∧ allz sv 8 = true
  · obtain ⟨z1, z2⟩ := zz
    have Z : Hid (∀ j, j < 16 → sv j = 0) := hide fun j hj => by
      rcases Nat.lt_or_ge j 8 with a | a
      · simpa using allz_iff.1 z1 j a
      · have := allz_iff.1 z2 (j - 8) (by omega); rwa [show 8 + (j - 8) = j from by omega] at this
    rw [z1] at hE1
    rw [z2] at hE2
    clear z1 z2
    go_enter Try.func34, Try.ntmps34
    go_wp2_with (refine wpList_load_cells rfl 59 (.tmp 4) rfl w.heap.size 0 rfl (slotVals sv) (d := _) (fun j v hv => by rw [Nat.zero_add]; exact HBX.out.cell hv) Try.underlying59 rfl (by kernel_rfl) ?_)
    refine bodyPost_ret (results_none rfl _ _ _) rfl ?_
    refine ⟨rfl, (Only.refl _ _).alloc _, HST.out.2.1.congr fun j _ => ?_⟩
    unfold addf
    rw [if_neg (by omega)]
    split
    · rename_i hj
      have := Z.out (j - 16004) (by omega)
      have e := HSU.out (j - 16004) (by omega)
      rw [show 16004 + (j - 16004) = j from by omega] at e
      rw [e, this]; simp
    · rfl
  · have hE : (allz sv 0 = false) ∨ (allz sv 0 = true ∧ allz sv 8 = false) := by
      cases h1 : allz sv 0 <;> cases h2 : allz sv 8 <;> simp [h1, h2] at zz ⊢
    clear zz
    rcases hE with z1 | ⟨z1, z2⟩
    · rw [z1] at hE1
      clear z1 hE2
      rcases hb with rfl | rfl
      all_goals
        go_enter Try.func34, Try.ntmps34
        go_wp2_with (refine wpList_load_cells rfl 59 (.tmp 4) rfl w.heap.size 0 rfl (slotVals sv) (d := _) (fun j v hv => by rw [Nat.zero_add]; exact HBX.out.cell hv) Try.underlying59 rfl (by kernel_rfl) ?_)
        clear c2 hE1
        go_loopw [15] (fun i wr => ∃ k : Nat, k ≤ n ∧ i = .int .i64 k ∧ AddRel b f su sv _ w k wr) (fun i _ => n - (intOf i).toNat)
        case atStart => exact ⟨0, Nat.zero_le _, rfl, HST.out⟩
        case round =>
          obtain ⟨k, hk, rfl, ho, hf, hx⟩ := hrel
          clear HST
          rcases Nat.lt_or_ge k n with hlt | hge
          · have d1 := hf.cell' (i := 16004 + k) (v := I64 (su k)) (by omega) (by unfold addf; rw [if_neg (by omega)]; exact HSU.out k (by omega))
            have d2 := hf.cell' (i := 16012 + k) (v := I64 (su (8 + k))) (by omega) (by unfold addf; rw [if_neg (by omega), show 16012 + k = 16004 + (8 + k) from by omega]; exact HSU.out (8 + k) (by omega))
            have fz := hf.frozen
            have g1 := hx.cell (i := k) (v := I64 (sv k)) (slotVals_at sv (by omega))
            have g2 := hx.cell (i := 8 + k) (v := I64 (sv (8 + k))) (slotVals_at sv (by omega))
            obtain ⟨a1, a2⟩ := HS0.out k
            obtain ⟨a3, a4⟩ := HS0.out (8 + k)
            obtain ⟨a5, a6⟩ := HV0.out k
            obtain ⟨a7, a8⟩ := HV0.out (8 + k)
            have hne : w.heap.size ≠ b := by omega
            have hne' : b ≠ w.heap.size := by omega
            have hlx := hx.lt
            have hlb := hf.lt
            have HF := hide hf
            have HX := hide hx
            have HO := hide ho
            clear hf hx ho
            go_wp2
            refine wp_region_text 18 [] [] [] (fun _ => True) (by kernel_rfl) (by kernel_rfl) trivial ?_
            simp only [List.take_succ_cons, List.take_zero, List.drop_succ_cons, List.drop_zero]
            repeat (first | ((refine wpText_h rfl rfl ?_; apply Exists.intro; refine ⟨?_, ?_⟩; next => (go_simp; (try (go_bits; go_simp)); (first | done | with_reducible rfl | (rw [if_neg (by omega)]; (try (go_bits; go_simp)); (first | done | with_reducible rfl)) | (rw [if_pos (by omega)]; (try (go_bits; go_simp)); (first | done | with_reducible rfl))))); (try simp only [Act.put, List.setIfInBounds_toArray, List.set_cons_zero, List.set_cons_succ])) | ((refine wpText_p rfl rfl ?_; apply Exists.intro; refine ⟨?_, ?_⟩; next => (intro w'; go_simp; (try (go_bits; go_simp)); (first | done | with_reducible rfl | (rw [if_neg (by omega)]; (try (go_bits; go_simp)); (first | done | with_reducible rfl)) | (rw [if_pos (by omega)]; (try (go_bits; go_simp)); (first | done | with_reducible rfl))))); (try simp only [Act.put, List.setIfInBounds_toArray, List.set_cons_zero, List.set_cons_succ])) | ((refine wpText_y rfl rfl ?_; apply Exists.intro; refine ⟨?_, ?_⟩; next => (intro w' hS; (first | obtain ⟨_, rfl⟩ := hS | skip); go_simp; (try (go_bits; go_simp)); (first | done | with_reducible rfl | (rw [if_neg (by omega)]; (try (go_bits; go_simp)); (first | done | with_reducible rfl)) | (rw [if_pos (by omega)]; (try (go_bits; go_simp)); (first | done | with_reducible rfl))))); (try simp only [Act.put, List.setIfInBounds_toArray, List.set_cons_zero, List.set_cons_succ])) | (refine wpText_skip (by first | exact .inl rfl | exact .inr (.inl rfl) | exact .inr (.inr rfl)) rfl ?_; (try simp only [Act.put, List.setIfInBounds_toArray, List.set_cons_zero, List.set_cons_succ])))
            refine wpText_nil ?_
            go_wp2
            refine NoX.normal ?_
            go_wp2
            refine wp_region_text 18 [] [] [] (fun _ => True) (by kernel_rfl) (by kernel_rfl) trivial ?_
            simp only [List.take_succ_cons, List.take_zero, List.drop_succ_cons, List.drop_zero]
            repeat (first | ((refine wpText_h rfl rfl ?_; apply Exists.intro; refine ⟨?_, ?_⟩; next => (go_simp; (try (go_bits; go_simp)); (first | done | with_reducible rfl | (rw [if_neg (by omega)]; (try (go_bits; go_simp)); (first | done | with_reducible rfl)) | (rw [if_pos (by omega)]; (try (go_bits; go_simp)); (first | done | with_reducible rfl))))); (try simp only [Act.put, List.setIfInBounds_toArray, List.set_cons_zero, List.set_cons_succ])) | ((refine wpText_p rfl rfl ?_; apply Exists.intro; refine ⟨?_, ?_⟩; next => (intro w'; go_simp; (try (go_bits; go_simp)); (first | done | with_reducible rfl | (rw [if_neg (by omega)]; (try (go_bits; go_simp)); (first | done | with_reducible rfl)) | (rw [if_pos (by omega)]; (try (go_bits; go_simp)); (first | done | with_reducible rfl))))); (try simp only [Act.put, List.setIfInBounds_toArray, List.set_cons_zero, List.set_cons_succ])) | ((refine wpText_y rfl rfl ?_; apply Exists.intro; refine ⟨?_, ?_⟩; next => (intro w' hS; (first | obtain ⟨_, rfl⟩ := hS | skip); go_simp; (try (go_bits; go_simp)); (first | done | with_reducible rfl | (rw [if_neg (by omega)]; (try (go_bits; go_simp)); (first | done | with_reducible rfl)) | (rw [if_pos (by omega)]; (try (go_bits; go_simp)); (first | done | with_reducible rfl))))); (try simp only [Act.put, List.setIfInBounds_toArray, List.set_cons_zero, List.set_cons_succ])) | (refine wpText_skip (by first | exact .inl rfl | exact .inr (.inl rfl) | exact .inr (.inr rfl)) rfl ?_; (try simp only [Act.put, List.setIfInBounds_toArray, List.set_cons_zero, List.set_cons_succ])))
            refine wpText_nil ?_
            go_wp2
            refine NoX.normal ?_
            go_wp2
            go_roundw
            case rel =>
              refine ⟨k + 1, by omega, by go_num, ((((HO.out.drew).set (.inl (by simp)) _).drew).set (.inl (by simp)) _), ?_, ?_⟩
              · refine (((HF.out.drew.set _ _).drew).set _ _).congr fun j hj => ?_
                rw [← addf_step f su sv _ k (by omega)]
                try simp
              · exact ((HX.out.drew.far hne _).drew).far hne _
            case measure => simp [intOf]; omega
          · obtain rfl : k = n := by omega
            go_wp2
            go_end0
            exact ⟨rfl, ho, hf⟩
    · rw [z1] at hE1
      rw [z2] at hE2
      clear z1 z2
      rcases hb with rfl | rfl
      all_goals
        go_enter Try.func34, Try.ntmps34
        go_wp2_with (refine wpList_load_cells rfl 59 (.tmp 4) rfl w.heap.size 0 rfl (slotVals sv) (d := _) (fun j v hv => by rw [Nat.zero_add]; exact HBX.out.cell hv) Try.underlying59 rfl (by kernel_rfl) ?_)
        clear c2 hE1 hE2
        go_loopw [15] (fun i wr => ∃ k : Nat, k ≤ n ∧ i = .int .i64 k ∧ AddRel b f su sv _ w k wr) (fun i _ => n - (intOf i).toNat)
        case atStart => exact ⟨0, Nat.zero_le _, rfl, HST.out⟩
        case round =>
          obtain ⟨k, hk, rfl, ho, hf, hx⟩ := hrel
          clear HST
          rcases Nat.lt_or_ge k n with hlt | hge
          · have d1 := hf.cell' (i := 16004 + k) (v := I64 (su k)) (by omega) (by unfold addf; rw [if_neg (by omega)]; exact HSU.out k (by omega))
            have d2 := hf.cell' (i := 16012 + k) (v := I64 (su (8 + k))) (by omega) (by unfold addf; rw [if_neg (by omega), show 16012 + k = 16004 + (8 + k) from by omega]; exact HSU.out (8 + k) (by omega))
            have fz := hf.frozen
            have g1 := hx.cell (i := k) (v := I64 (sv k)) (slotVals_at sv (by omega))
            have g2 := hx.cell (i := 8 + k) (v := I64 (sv (8 + k))) (slotVals_at sv (by omega))
            obtain ⟨a1, a2⟩ := HS0.out k
            obtain ⟨a3, a4⟩ := HS0.out (8 + k)
            obtain ⟨a5, a6⟩ := HV0.out k
            obtain ⟨a7, a8⟩ := HV0.out (8 + k)
            have hne : w.heap.size ≠ b := by omega
            have hne' : b ≠ w.heap.size := by omega
            have hlx := hx.lt
            have hlb := hf.lt
            have HF := hide hf
            have HX := hide hx
            have HO := hide ho
            clear hf hx ho
            go_wp2
            refine wp_region_text 18 [] [] [] (fun _ => True) (by kernel_rfl) (by kernel_rfl) trivial ?_
            simp only [List.take_succ_cons, List.take_zero, List.drop_succ_cons, List.drop_zero]
            repeat (first | ((refine wpText_h rfl rfl ?_; apply Exists.intro; refine ⟨?_, ?_⟩; next => (go_simp; (try (go_bits; go_simp)); (first | done | with_reducible rfl | (rw [if_neg (by omega)]; (try (go_bits; go_simp)); (first | done | with_reducible rfl)) | (rw [if_pos (by omega)]; (try (go_bits; go_simp)); (first | done | with_reducible rfl))))); (try simp only [Act.put, List.setIfInBounds_toArray, List.set_cons_zero, List.set_cons_succ])) | ((refine wpText_p rfl rfl ?_; apply Exists.intro; refine ⟨?_, ?_⟩; next => (intro w'; go_simp; (try (go_bits; go_simp)); (first | done | with_reducible rfl | (rw [if_neg (by omega)]; (try (go_bits; go_simp)); (first | done | with_reducible rfl)) | (rw [if_pos (by omega)]; (try (go_bits; go_simp)); (first | done | with_reducible rfl))))); (try simp only [Act.put, List.setIfInBounds_toArray, List.set_cons_zero, List.set_cons_succ])) | ((refine wpText_y rfl rfl ?_; apply Exists.intro; refine ⟨?_, ?_⟩; next => (intro w' hS; (first | obtain ⟨_, rfl⟩ := hS | skip); go_simp; (try (go_bits; go_simp)); (first | done | with_reducible rfl | (rw [if_neg (by omega)]; (try (go_bits; go_simp)); (first | done | with_reducible rfl)) | (rw [if_pos (by omega)]; (try (go_bits; go_simp)); (first | done | with_reducible rfl))))); (try simp only [Act.put, List.setIfInBounds_toArray, List.set_cons_zero, List.set_cons_succ])) | (refine wpText_skip (by first | exact .inl rfl | exact .inr (.inl rfl) | exact .inr (.inr rfl)) rfl ?_; (try simp only [Act.put, List.setIfInBounds_toArray, List.set_cons_zero, List.set_cons_succ])))
            refine wpText_nil ?_
            go_wp2
            refine NoX.normal ?_
            go_wp2
            refine wp_region_text 18 [] [] [] (fun _ => True) (by kernel_rfl) (by kernel_rfl) trivial ?_
            simp only [List.take_succ_cons, List.take_zero, List.drop_succ_cons, List.drop_zero]
            repeat (first | ((refine wpText_h rfl rfl ?_; apply Exists.intro; refine ⟨?_, ?_⟩; next => (go_simp; (try (go_bits; go_simp)); (first | done | with_reducible rfl | (rw [if_neg (by omega)]; (try (go_bits; go_simp)); (first | done | with_reducible rfl)) | (rw [if_pos (by omega)]; (try (go_bits; go_simp)); (first | done | with_reducible rfl))))); (try simp only [Act.put, List.setIfInBounds_toArray, List.set_cons_zero, List.set_cons_succ])) | ((refine wpText_p rfl rfl ?_; apply Exists.intro; refine ⟨?_, ?_⟩; next => (intro w'; go_simp; (try (go_bits; go_simp)); (first | done | with_reducible rfl | (rw [if_neg (by omega)]; (try (go_bits; go_simp)); (first | done | with_reducible rfl)) | (rw [if_pos (by omega)]; (try (go_bits; go_simp)); (first | done | with_reducible rfl))))); (try simp only [Act.put, List.setIfInBounds_toArray, List.set_cons_zero, List.set_cons_succ])) | ((refine wpText_y rfl rfl ?_; apply Exists.intro; refine ⟨?_, ?_⟩; next => (intro w' hS; (first | obtain ⟨_, rfl⟩ := hS | skip); go_simp; (try (go_bits; go_simp)); (first | done | with_reducible rfl | (rw [if_neg (by omega)]; (try (go_bits; go_simp)); (first | done | with_reducible rfl)) | (rw [if_pos (by omega)]; (try (go_bits; go_simp)); (first | done | with_reducible rfl))))); (try simp only [Act.put, List.setIfInBounds_toArray, List.set_cons_zero, List.set_cons_succ])) | (refine wpText_skip (by first | exact .inl rfl | exact .inr (.inl rfl) | exact .inr (.inr rfl)) rfl ?_; (try simp only [Act.put, List.setIfInBounds_toArray, List.set_cons_zero, List.set_cons_succ])))
            refine wpText_nil ?_
            go_wp2
            refine NoX.normal ?_
            go_wp2
            go_roundw
            case rel =>
              refine ⟨k + 1, by omega, by go_num, ((((HO.out.drew).set (.inl (by simp)) _).drew).set (.inl (by simp)) _), ?_, ?_⟩
              · refine (((HF.out.drew.set _ _).drew).set _ _).congr fun j hj => ?_
                rw [← addf_step f su sv _ k (by omega)]
                try simp
              · exact ((HX.out.drew.far hne _).drew).far hne _
            case measure => simp [intOf]; omega
          · obtain rfl : k = n := by omega
            go_wp2
            go_end0
            exact ⟨rfl, ho, hf⟩

end Go.Proofs.Ytpeaojkbfllakaa
