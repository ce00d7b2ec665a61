/- The reference's resolver: Lookup, Learn. -/
import Derived.Test.YtlnejlhdkmneeaaResF2
namespace Go.Proofs.Ytlnejlhdkmneeaa
open Go.RowKit

theorem set_setE {l : List Ent} (hn : (addrs l).Nodup) {k : Nat} {x y : Ent} (hx : l[k]? = some x) (hy : y.a = x.a) : l.set k y = setE l y := by
  have hk : k < l.length := (List.getElem?_eq_some_iff.1 hx).1
  apply List.ext_getElem?
  intro i
  unfold setE
  rw [List.getElem?_map, List.getElem?_set]
  by_cases h : k = i
  · subst h
    rw [if_pos rfl, if_pos hk, hx]
    simp [hy]
  · rw [if_neg h]
    cases hu : l[i]? with
    | none => rfl
    | some u =>
      have hne : u.a ≠ y.a := fun e => h ((List.getElem?_inj (by simpa [addrs] using hk) hn).1 (by unfold addrs; rw [List.getElem?_map, List.getElem?_map, hx, hu]; simp [e, hy]))
      simp [hne]

section
variable {base y : Nat} {life clock : Int} {l : List Ent} {zs : List (Ent × Value)} {va : Value} {w w' : World}
theorem RResAt.put (h : RResAt base y life clock l zs va w) {k : Nat} {x y' : Ent} {v v' : Value} (hz : zs[k]? = some (x, v)) (hy : y'.a = x.a) (ho : Only va.ownBlock.toList w w')
    (hrow : offRow w' base rentT 5 va l.length ((zs.set k (y', v')).flatMap rcl)) (hw : ∃ qs, offRow w' base rpktT 8 v' y'.wt.length (qs.flatMap Pkt.cells) ∧ PkLie w' y'.wt qs) : RResAt base y life clock (setE l y') (zs.set k (y', v')) va w' := by
  have hlx : l[k]? = some x := by rw [← h.fst, List.getElem?_map, hz]; rfl
  have hny := off_ne_blk h.row h.me (by decide)
  refine ⟨ho.blk h.me (fun hh => hny (mem_own.1 hh)), by rw [setE_len]; exact hrow, ?_, ?_, by rw [setE_addrs]; exact h.nodup, h.bq⟩
  · rw [List.map_set, h.fst]
    exact set_setE h.nodup hlx hy
  · intro z hz2
    rcases List.mem_or_eq_of_mem_set hz2 with hz2 | rfl
    · refine wts_sameOn h.wts (fun i T cs hi hT => ho.block i hi.lt ?_) z hz2
      intro hm
      obtain ⟨cs', h3⟩ := offT h.row (mem_own.1 hm)
      simp only [List.mem_cons, List.not_mem_nil, or_false] at hT
      rcases hT with rfl | rfl
      · exact absurd rfl (hi.ne h3 (by decide))
      · exact absurd rfl (hi.ne h3 (by decide))
    · exact hw
end

def RLookUpS (base y : Nat) (life : Int) (l : List Ent) (r : Int × Int × Int) (zs : List (Ent × Value)) (va : Value) (w : World) (e : Ending) (w' : World) : Prop :=
  e = .returned (.tuple #[.int .u64 r.1, I64 r.2.1]) ∧ RResAt base y life r.2.2 l zs va w' ∧ OnlyT rresTs base w w'
set_option maxRecDepth 100000 in
set_option maxHeartbeats 4000000 in
theorem rrlookup_ok (base y : Nat) (life clock a now : Int) (l : List Ent) (zs : List (Ent × Value)) (va : Value) (w : World) (hm : l.length ≤ 1000000) (h : RResAt base y life clock l zs va w) :
    Calls Try.prog 47 #[.pointer (some ⟨y, 0, none⟩), .int .u32 a, I64 now] w fun e w' => RLookUpS base y life l (lookL l a now clock) zs va w e w' := by
  have H0 := hide h
  have HM := hide hm
  by_cases ht : timeC now clock = 0
  · by_cases hk : knownL l a now = 0
    · have hR : Hid (lookL l a now clock = (0, 2, clock)) := hide (by unfold lookL; rw [if_neg (by simpa using ht), if_pos hk])
      have HT := hide ht
      have HK := hide hk
      clear h ht hk hm
      go_enter Try.func47, Try.ntmps47
      go_wp2_with fail
      refine (rtime_ok y life clock now _ _ H0.out.me).mono ?_
      rintro e w1 ⟨rfl, rfl⟩
      rw [HT.out]
      go_wp2_with fail
      refine (rknown_ok base y life clock a now l zs va _ _ rfl HM.out H0.out).mono ?_
      rintro e w1 ⟨rfl, rfl⟩
      rw [HK.out]
      go_wp2
      go_ret2
      rw [hR.out]
      exact ⟨rfl, H0.out, OnlyT.refl _⟩
    · have hR : Hid (lookL l a now clock = (knownL l a now, 0, now)) := hide (by unfold lookL; rw [if_neg (by simpa using ht), if_neg hk])
      have HT := hide ht
      have hk' : (knownL l a now == 0) = false := by simpa using hk
      have c1 := h.me.frozen 2
      have d1 := h.me.cell (i := 2) rfl
      have ltq := h.me.lt
      clear h ht hk hm
      go_enter Try.func47, Try.ntmps47
      go_wp2_with fail
      refine (rtime_ok y life clock now _ _ H0.out.me).mono ?_
      rintro e w1 ⟨rfl, rfl⟩
      rw [HT.out]
      go_wp2_with fail
      refine (rknown_ok base y life clock a now l zs va _ _ rfl HM.out H0.out).mono ?_
      rintro e w1 ⟨rfl, rfl⟩
      go_wp2
      go_ret2
      rw [hR.out]
      exact ⟨rfl, H0.out.clockTo now, H0.out.frame (S := [y]) ((Only.refl _ _).set (p := ⟨y, 2, none⟩) (.inl (by simp)) _) (by simp)⟩
  · have hR : Hid (lookL l a now clock = (0, timeC now clock, clock)) := hide (by unfold lookL; rw [if_pos ht])
    have ht' : (timeC now clock != 0) = true := by simpa using ht
    clear h ht hm
    go_enter Try.func47, Try.ntmps47
    go_wp2_with fail
    refine (rtime_ok y life clock now _ _ H0.out.me).mono ?_
    rintro e w1 ⟨rfl, rfl⟩
    go_wp2
    go_ret2
    rw [hR.out]
    exact ⟨rfl, H0.out, OnlyT.refl _⟩

theorem pk_one (qs : List Pkt) : ∀ u ∈ qs.flatMap Pkt.cells, u.oneCell' = true := by
  intro u hu
  obtain ⟨q, -, hq⟩ := List.mem_flatMap.1 hu
  simp only [Pkt.cells, List.mem_cons, List.not_mem_nil, or_false] at hq
  rcases hq with rfl | rfl | rfl | rfl | rfl | rfl | rfl | rfl <;> rfl

def RLearnS (base y : Nat) (life : Int) (r : List Ent × Int × Int × List Pkt) (w : World) (e : Ending) (w' : World) : Prop :=
  ∃ v qs zs va, e = .returned (.tuple #[v, I64 r.2.2.1]) ∧ offRow w' base rpktT 8 v r.2.2.2.length (qs.flatMap Pkt.cells) ∧ PkLie w' r.2.2.2 qs ∧ RResAt base y life r.2.1 r.1 zs va w' ∧ OnlyT rresTs base w w'
theorem build_rent3 (a hw ex : Int) : ∀ w : World, (Instr.build 177 #[(0, .int .u32 a), (1, .int .u64 hw), (2, I64 ex)]).run Try.prog w = .ok (.agg #[.int .u32 a, .int .u64 hw, I64 ex, .slice none 0 0, I64 0]) w := fun _ => by kernel_rfl

set_option maxRecDepth 100000 in
set_option maxHeartbeats 8000000 in
theorem rlearn_ok (base y : Nat) (life clock a hw now : Int) (l : List Ent) (zs : List (Ent × Value)) (va : Value) (w : World) (h : RResAt base y life clock l zs va w) (hbw : base ≤ w.heap.size)
    (hlife : 0 ≤ life ∧ life ≤ 1099511627776) (hl : (getE l a).isSome = true ∨ l.length ≤ 200) (hm : l.length ≤ 1000000) (hw4 : (inE l a).wt.length ≤ 4) :
    Calls Try.prog 45 #[.pointer (some ⟨y, 0, none⟩), .int .u32 a, .int .u64 hw, I64 now] w fun e w' => RLearnS base y life (learnL l a hw now life clock) w e w' := by
  have H0 := hide h
  by_cases ht : timeC now clock = 0
  · by_cases hh : hw = 0
    · have hR : Hid (learnL l a hw now life clock = (l, clock, 14, [])) := hide (by unfold learnL; rw [if_neg (by simpa using ht), if_pos hh])
      have HT := hide ht
      clear h ht
      go_enter Try.func45, Try.ntmps45
      go_wp2_with fail
      refine (rtime_ok y life clock now _ _ H0.out.me).mono ?_
      rintro e w1 ⟨rfl, rfl⟩
      rw [HT.out]
      go_wp2
      go_ret2
      rw [hR.out]
      exact ⟨_, [], zs, va, rfl, off_nil _ _ _ _, PkLie.nil _, H0.out, OnlyT.refl _⟩
    · have hR : Hid (learnL l a hw now life clock = (setE (entL l a) ⟨a, hw, now + life, 0, []⟩, now, 0, (inE l a).wt)) := hide (by unfold learnL; rw [if_neg (by simpa using ht), if_neg hh])
      have HT := hide ht
      obtain ⟨t1, t2, -⟩ := timeC_ok ht
      have c1 := h.me.frozen 2
      have d1 := h.me.cell (i := 2) rfl
      have ltq := h.me.lt
      have HBW := hide hbw
      have HL := hide hl
      have HM := hide hm
      have HW4 := hide hw4
      clear h ht hbw hl hm hw4
      go_enter Try.func45, Try.ntmps45
      go_wp2_with fail
      refine (rtime_ok y life clock now _ _ H0.out.me).mono ?_
      rintro e w1 ⟨rfl, rfl⟩
      rw [HT.out]
      go_wp2_with fail
      refine (rentry_ok base y life now a l zs va _ _ rfl HM.out (H0.out.clockTo now) (by have := HBW.out; simp [World.setCell]; exact this) HL.out).mono ?_
      rintro e w2 ⟨k, zs2, va2, rfl, h2, hx, ho2, hv2⟩
      obtain ⟨v, hz⟩ := h2.get hx
      obtain ⟨n2, hn2⟩ : ∃ n, n = (entL l a).length := ⟨_, rfl⟩
      have hkn : k < n2 := by rw [hn2]; exact (List.getElem?_eq_some_iff.1 hx).1
      have hr2 := h2.row
      rw [← hn2] at hr2
      obtain ⟨g, o, cap, cs, rfl, hB, hcl, htk⟩ := off_blk hr2 (by omega)
      obtain ⟨g', o', hgo, hc⟩ := h2.cells rfl hz
      injection hgo with hgo
      injection hgo with hg ho'
      subst hg ho'
      have q0 := h2.me.cell (i := 0) rfl
      have q1 := h2.me.cell (i := 1) rfl
      have q2 := h2.me.lt
      have e3 := hc 3 _ rfl
      have hbd := build_rent3 a hw (now + life)
      have H2 := hide (show _ ∧ _ ∧ _ ∧ _ ∧ _ ∧ _ from ⟨h2, hB, hz, hx, ho2, hr2⟩)
      have HN2 := hide hn2
      have HCL := hide hcl
      clear h2 hB hx ho2 hr2 hz hc hn2 hcl htk c1 d1 ltq
      go_wp2
      refine wp_region_text 15 [] [] [] (fun _ => True) (by kernel_rfl) (by kernel_rfl) trivial ?_
      simp only [List.take_succ_cons, List.take_zero, List.drop_succ_cons, List.drop_zero]
      repeat (first | ((refine wpText_h rfl rfl ?_; apply Exists.intro; refine ⟨?_, ?_⟩; next => (go_simp; (try (go_bits; go_simp)); (first | done | with_reducible rfl | (rw [if_neg (by omega)]; (try (go_bits; go_simp)); (first | done | with_reducible rfl)) | (rw [if_pos (by omega)]; (try (go_bits; go_simp)); (first | done | with_reducible rfl))))); (try simp only [Act.put, List.setIfInBounds_toArray, List.set_cons_zero, List.set_cons_succ])) | ((refine wpText_p rfl rfl ?_; apply Exists.intro; refine ⟨?_, ?_⟩; next => (intro w'; go_simp; (try (go_bits; go_simp)); (first | done | with_reducible rfl | (rw [if_neg (by omega)]; (try (go_bits; go_simp)); (first | done | with_reducible rfl)) | (rw [if_pos (by omega)]; (try (go_bits; go_simp)); (first | done | with_reducible rfl))))); (try simp only [Act.put, List.setIfInBounds_toArray, List.set_cons_zero, List.set_cons_succ])) | ((refine wpText_y rfl rfl ?_; apply Exists.intro; refine ⟨?_, ?_⟩; next => (intro w' hS; (first | obtain ⟨_, rfl⟩ := hS | skip); go_simp; (try (go_bits; go_simp)); (first | done | with_reducible rfl | (rw [if_neg (by omega)]; (try (go_bits; go_simp)); (first | done | with_reducible rfl)) | (rw [if_pos (by omega)]; (try (go_bits; go_simp)); (first | done | with_reducible rfl))))); (try simp only [Act.put, List.setIfInBounds_toArray, List.set_cons_zero, List.set_cons_succ])) | (refine wpText_skip (by first | exact .inl rfl | exact .inr (.inl rfl) | exact .inr (.inr rfl)) rfl ?_; (try simp only [Act.put, List.setIfInBounds_toArray, List.set_cons_zero, List.set_cons_succ])))
      refine wpText_nil ?_
      go_wp2_with (refine wpList_store_cells rfl 177 (.tmp 50) (.tmp 49) rfl g (o + k * 5) rfl [.int .u32 a, .int .u64 hw, I64 (now + life), .slice none 0 0, I64 0] rfl rentT cs H2.out.2.1 (by have := HCL.out; simp only [List.length_cons, List.length_nil]; omega) (by kernel_rfl) (by simp [Value.oneCell']) ?_; intro v1 hw3)
      have ho3 : Only [g] w2 v1 := ((Only.refl [g] w2).drew).trans hw3.2.1
      obtain ⟨qs, hq1, hq2⟩ := H2.out.1.wts (inE l a, v) (List.mem_of_getElem? H2.out.2.2.1)
      obtain ⟨nw, hnw⟩ : ∃ n, n = (inE l a).wt.length := ⟨_, rfl⟩
      have hq1' : offRow w2 base rpktT 8 v nw (qs.flatMap Pkt.cells) := by rw [hnw]; exact hq1
      have hq3 : offRow v1 base rpktT 8 v nw (qs.flatMap Pkt.cells) := off_only hq1' ho3 (fun j hj => by
        obtain ⟨cs', h3⟩ := offT hq1' hj
        simpa using h3.ne H2.out.2.1 (by decide))
      have hq4 : PkLie v1 (inE l a).wt qs := hq2.sameOn (fun j cs' hj => ho3.block j hj.lt (by simpa using hj.ne H2.out.2.1 (by decide)))
      have hxa := inE_a l a
      have hst := off_stored (w' := v1) H2.out.2.2.2.2.2 rfl (p := k * 5) (vs := [.int .u32 a, .int .u64 hw, I64 (now + life), .slice none 0 0, I64 0]) H2.out.2.1 hw3.1 (by simp only [List.length_cons, List.length_nil]; omega)
      have hput := H2.out.1.put (w' := v1) (y' := ⟨a, hw, now + life, 0, []⟩) (v' := .slice none 0 0) H2.out.2.2.1 hxa.symm (by simpa [Value.ownBlock] using ho3)
        (by
          rw [← HN2.out]
          have h5 := rcl_splice zs2 k (List.getElem?_eq_some_iff.1 H2.out.2.2.1).1 ((⟨a, hw, now + life, 0, []⟩ : Ent), Value.slice none 0 0)
          rw [← h5]
          exact hst)
        ⟨[], off_nil _ _ _ _, PkLie.nil _⟩
      have HS := hide (show base ≤ v1.heap.size from by have h1 := HBW.out; have h2 := H2.out.2.2.2.2.1.size; have h3 := ho3.size; simp [World.setCell] at h2; omega)
      have HF := hide (show OnlyT rresTs base w1 v1 from ((H0.out.frame (S := [y]) ((Only.refl _ _).set (p := ⟨y, 2, none⟩) (.inl (by simp)) _) (by simp)).trans ((H0.out.clockTo now).frame H2.out.2.2.2.2.1 (fun i hi _ => (List.mem_cons.1 hi).imp id mem_own.1))).trans (H2.out.1.frame ho3 (fun i hi _ => .inr (by obtain rfl : i = g := (by simpa using hi); rfl))))
      have hnw4 : nw ≤ 4 := by rw [hnw]; exact HW4.out
      have HP := hide (show _ ∧ _ ∧ _ ∧ _ from ⟨hput, hq3, hq4, hnw⟩)
      obtain ⟨Av, cv, rfl⟩ := off_shape hq3
      obtain ⟨i0, hi0, hz0, hs0, hb0⟩ := info_parts refpacket_info
      have hmade := hide (World.ownsRow_made (base := base) (e := rpktT) (size := 8) v1 #[] 0 HS.out (by simp [maxLen]) rfl)
      clear hw3 ho3 hq1 hq2 hq1' hq3 hq4 hst hput H2 hnw q0 q1 q2 e3
      refine NoX.normal ?_
      go_wp2_with (at_builtin; refine wpList_append_offs _ rfl (.tmp 51) (.tmp 52) 42 rfl rpktT i0 (.agg zsP.toArray) 8 72 Try.underlying42 hi0 hz0 hs0 hb0 rfl (by decide) base (.slice (some ⟨v1.heap.size, 0, none⟩) 0 0) 0 [] rfl (off_of_own hmade.out) (Nat.le_trans HS.out ((Only.refl [] v1).alloc _).size) base (.slice Av nw cv) nw (qs.flatMap Pkt.cells) rfl (off_keep HP.out.2.1 ((Only.refl [] v1).alloc _)) (pk_one qs) (by simp only [maxLen]; omega) (by omega) ?_)
      intro v6 w6 hr6 ho6 hv6
      have ho36 : Only [] v1 w6 := ((Only.refl [] v1).alloc (.cells #[] rpktT)).trans' ho6 (fun i hi hlt => by simp [Value.ownBlock] at hi; omega)
      have HE := hide (And.intro hr6 ho36)
      clear hr6 ho6 hv6 ho36 hmade
      go_wp2
      go_ret2
      rw [hR.out]
      exact ⟨_, qs, _, _, rfl, by rw [← HP.out.2.2.2]; exact HE.out.1, HP.out.2.2.1.only HE.out.2, HP.out.1.only HE.out.2, HF.out.trans (.of_nil HE.out.2)⟩
  · have hR : Hid (learnL l a hw now life clock = (l, clock, timeC now clock, [])) := hide (by unfold learnL; rw [if_pos ht])
    have ht' : (timeC now clock != 0) = true := by simpa using ht
    clear h ht
    go_enter Try.func45, Try.ntmps45
    go_wp2_with fail
    refine (rtime_ok y life clock now _ _ H0.out.me).mono ?_
    rintro e w1 ⟨rfl, rfl⟩
    go_wp2
    go_ret2
    rw [hR.out]
    exact ⟨_, [], zs, va, rfl, off_nil _ _ _ _, PkLie.nil _, H0.out, OnlyT.refl _⟩

end Go.Proofs.Ytlnejlhdkmneeaa
