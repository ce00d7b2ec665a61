/- The entry of an address, which is made if there is none; the oldest is dropped if there are too many. -/
import Derived.Test.YtlnejlhdkmneeaaManyC
namespace Go.Proofs.Ytlnejlhdkmneeaa
open Go.RowKit

def EntOk (l : List Ent) (a : Int) : Prop := ((getE l a).isSome = true ∨ l.length ≤ 200) ∧ ∀ x ∈ l, 0 ≤ x.a ∧ x.a < 4294967296

theorem own_some' {w : World} {base n sz : Nat} {T : TypeId} {v : Value} {xs : List Value} (h : w.ownsRow base T sz v n xs) (hn : 0 < n) : ∃ g c, v = .slice (some ⟨g, 0, none⟩) n c := by
  rcases h.2 with ⟨_, h0⟩ | ⟨g, cap, cur, rfl, _⟩
  · omega
  · exact ⟨g, cap, rfl⟩
/-- What the keys tell. -/
theorem keys_ents {base q b m : Nat} {life clock : Int} {l : List Ent} {eb : Int → Nat} {vb : Int → Value} {w : World} (h : ResAt base q b m life clock l eb vb w) (hab : ∀ x ∈ l, 0 ≤ x.a ∧ x.a < 4294967296) :
    ∃ nn, ∃ D : DataW Unit, w.ownsMap Try.prog u32T ptrElem b nn D ∧ Maps.size D = l.length ∧ ∀ ss, KeysU D ss → ∃ es : List Ent, ss = es.map Ent.a ∧ es.length ≤ l.length ∧ (∀ x ∈ es, x ∈ l) ∧ ∀ x ∈ l, x ∈ es := by
  obtain ⟨nn, D, -, h1, h2, -, h4⟩ := h.map
  refine ⟨nn, D, h1, h2, fun ss hs => ⟨ss.map (inE l), ?_, by rw [List.length_map, ← h2]; exact hs.2.2.2, fun x hx => ?_, fun x hx => ?_⟩⟩
  · rw [List.map_map]
    exact (List.map_id ss).symm.trans (List.map_congr_left fun x _ => (inE_a l x).symm)
  · obtain ⟨c, hc, rfl⟩ := List.mem_map.1 hx
    have hw := hs.2.2.1 c hc
    have hb : 0 ≤ c ∧ c < 4294967296 := by simp [Lit.wf, IntKind.min, IntKind.max, IntKind.signed, IntKind.bits] at hw; omega
    have h5 := (h4 (.int .u32 c) ⟨_, key32 hb⟩).2
    rw [(hs.2.1 c).1 hc] at h5
    have h6 : lookF l eb (.int .u32 c) = (getE l c).map (fun _ => eb c) := rfl
    rw [h6] at h5
    cases hg : getE l c with
    | none => rw [hg] at h5; cases h5
    | some y => unfold inE; rw [hg]; exact (getE_some hg).1
  · have hg := getE_of_mem h.nodup hx
    have h5 := (h4 (.int .u32 x.a) ⟨_, key32 (hab x hx)⟩).2
    have h6 : lookF l eb (.int .u32 x.a) = (getE l x.a).map (fun _ => eb x.a) := rfl
    rw [h6, hg] at h5
    refine List.mem_map.2 ⟨x.a, (hs.2.1 x.a).2 h5, ?_⟩
    unfold inE; rw [hg]; rfl

set_option maxRecDepth 100000 in
set_option maxHeartbeats 4000000 in
theorem entry_ok (base q b m : Nat) (life clock a : Int) (l : List Ent) (eb : Int → Nat) (vb : Int → Value) (w : World) (h : ResAt base q b m life clock l eb vb w) (ha : 0 ≤ a ∧ a < 4294967296) (hm : m ≤ 1000000) (hbw : base ≤ w.heap.size)
    (hl : EntOk l a) : Calls Try.prog 84 #[.pointer (some ⟨q, 0, none⟩), .int .u32 a] w fun e w' => EntryS base q b m life clock a l w e w' := by
  by_cases hlt : (getE l a).isSome = true ∨ l.length < 200
  · exact entry_lt base q b m life clock a l eb vb w h ha hm hbw hlt
  have hg : getE l a = none := by
    cases hg : getE l a with
    | none => rfl
    | some x => exact absurd (.inl (by rw [hg]; rfl)) hlt
  have h200 : l.length = 200 := by
    rcases hl.1 with h1 | h1
    · exact absurd (.inl h1) hlt
    · have : ¬ l.length < 200 := fun h2 => hlt (.inr h2)
      omega
  have HAB := hide hl.2
  have hal : Only [] w (w.alloc (.cells #[.pointer (some ⟨q, 0, none⟩)] 84)) := (Only.refl [] w).alloc _
  have h0 := h.only hal
  have hbx : Blk (w.alloc (.cells #[.pointer (some ⟨q, 0, none⟩)] 84)) w.heap.size 84 [.pointer (some ⟨q, 0, none⟩)] := Blk.newA rfl
  have c2 := h0.me.cell (i := 2) rfl
  have lt := h0.me.lt
  have HB0 := hide hal
  have HM := hide h0.map
  have hk := key32 ha
  have HL := hide (lookF_none (eb := eb) hg)
  have HE := hide (entL_full hg (by omega))
  have H0 := hide (ResBox.mk h0 hbx)
  have HG := hide hg
  have HBW := hide hbw
  have H200 := hide h200
  have hnl : ((200 : Int) ≤ (l.length : Int)) := by omega
  clear hg h hl h0 hal hbw hlt hbx h200
  go_enter Try.func84, Try.ntmps84
  go_wp2_with (first | (at_lookup; refine wpList_ptr_none _ rfl _ _ 162 rfl u32T pentT k32 Try.underlying162 (zpent _) b m l.length (lookF l eb) rfl HM.out _ (.int .u32 a) rfl hk HL.out ?_) | (at_len; refine wpList_ptr_len _ rfl _ 162 rfl u32T pentT Try.underlying162 b m l.length (lookF l eb) rfl HM.out ?_) | fail)
  refine (keys_ok b _).mono ?_
  rintro e w1 ⟨rfl, hw1⟩
  have ho1 : Only [] (w.alloc (.cells #[.pointer (some ⟨q, 0, none⟩)] 84)) w1 := by rw [hw1]; exact (Only.refl [] _).alloc _
  have hb1 : Blk w1 (w.heap.size + 1) mapT [.map (some b)] := by rw [hw1]; exact Blk.newA (by simp)
  have H1 := hide (show _ ∧ _ from ⟨H0.out.only ho1, hb1⟩)
  obtain ⟨nn, D, hmap, hsz, hss⟩ := keys_ents H1.out.1.res HAB.out
  have HO1 := hide (Only.trans HB0.out ho1)
  have HSS := hide hss
  have HSZ := hide hsz
  clear hw1 ho1 hb1 hss hsz
  go_wp2_with fail
  refine (collect32_ok (w.heap.size + 1) b nn D _ H1.out.2.lt (H1.out.2.cell (i := 0) rfl) hmap (by rw [HSZ.out, H200.out]; omega)).mono ?_
  rintro e w2 ⟨v, ss, rfl, hks, hrow, hbel⟩
  obtain ⟨es, rfl, hel, hes, hle⟩ := HSS.out ss hks
  have hO12 : Only [] w1 w2 := Only.of_below hbel []
  obtain ⟨n, hn⟩ : ∃ n, n = es.length := ⟨_, rfl⟩
  have hrow2 : w2.ownsRow w1.heap.size 27 1 v n ((es.map Ent.a).map encU) := by rw [hn]; simpa using hrow
  have hn0 : 0 < n := by
    rw [hn]
    have hl0 := H200.out
    cases hq : l with
    | nil => rw [hq] at hl0; simp at hl0
    | cons z r => exact List.length_pos_of_mem (hle z (by rw [hq]; simp))
  obtain ⟨g, cap, rfl⟩ := own_some' hrow2 hn0
  obtain ⟨-, -, -, rest, hB2, -⟩ := blk_of_row1 hrow2
  have hlen : (es.map Ent.a).length = n := by rw [List.length_map, hn]
  have H2 := hide (show _ ∧ _ from ⟨H1.out.1.only hO12, hO12.blk H1.out.2 (by simp)⟩)
  have HC2 := hide (show ∀ (j : Nat) (x : Ent), es[j]? = some x → w2.cell? ⟨g, j, none⟩ = some (.int .u32 x.a) from fun j x hx => by
    refine hB2.cell ?_
    have h1 : ((es.map Ent.a).map encU)[j]? = some (.int .u32 x.a) := by simp [hx]
    rw [List.getElem?_append_left (List.getElem?_eq_some_iff.1 h1).1]; exact h1)
  have HES := hide (show _ ∧ _ ∧ _ ∧ _ from ⟨hes, hle, hn.symm, show n ≤ 1000000 by rw [hn]; have := H200.out; omega⟩)
  have HO2 := hide (Only.trans HO1.out hO12)
  have q2 := H2.out.1.res.me.cell (i := 2) rfl
  have r2 := H2.out.1.box.cell (i := 0) rfl
  have lq2 := H2.out.1.res.me.lt
  have lr2 := H2.out.1.box.lt
  clear hks hrow hbel hes hle hel hO12 hrow2 hB2 hmap hlen hn
  go_wp2_with fail
  refine (minFunc_ok base q b m w.heap.size g n cap life clock l eb vb _ H2.out.1 es HES.out.1 HES.out.2.2.1 hn0 HES.out.2.2.2 HAB.out HC2.out).mono ?_
  rintro e w3 ⟨y, rfl, hy, hmin, ho3⟩
  have hyl := HES.out.1 y hy
  obtain ⟨z, hz1, hz2⟩ := oldI_spec (l := l) (by intro h; have := H200.out; rw [h] at this; cases this)
  have H3 := hide (show ResBox base q b m w.heap.size life clock l eb vb w3 from H2.out.1.only ho3)
  obtain rfl : y = z := least_one H3.out.res.nodup hyl (List.mem_of_getElem? hz1) (hz2 y hyl) (hmin z (HES.out.2.1 z (List.mem_of_getElem? hz1)))
  have HZ := hide hz1
  have HO3 := hide (Only.trans HO2.out ho3)
  have hky := key32 (HAB.out y hyl)
  have HLY := hide (lookF_some (eb := eb) (getE_of_mem H3.out.res.nodup hyl))
  have q3 := H3.out.res.me.cell (i := 2) rfl
  have r3 := H3.out.box.cell (i := 0) rfl
  have lq3 := H3.out.res.me.lt
  have lr3 := H3.out.box.lt
  have HM3 := hide H3.out.res.map
  clear hy hmin ho3 hz1 hz2 q2 r2 lq2 lr2 c2 lt hyl
  go_wp2_with fail
  obtain ⟨w4, hrun, hM4, ho4⟩ := HM3.out.drop k32 Try.underlying162 (t := mapT) hky 0
  rw [HLY.out] at hM4
  have hR4 := H3.out.res.drop HZ.out ho4 hM4 rfl (by have := H200.out; simp; omega)
  have hx4 : Blk w4 w.heap.size 84 [.pointer (some ⟨q, 0, none⟩)] := ho4.blk H3.out.box (by simpa using Ne.symm (HM3.out.ne H3.out.box))
  have HO4 := hide ((HO3.out.mono (S' := [b]) (by simp)).trans ho4)
  have HR4 := hide hR4
  have HX4 := hide hx4
  have q4 := hR4.me.cell (i := 2) rfl
  have r4 := hx4.cell (i := 0) rfl
  have lq4 := hR4.me.lt
  have lr4 := hx4.lt
  have hnone : getE (l.eraseIdx (oldI l)) a = none := by
    have h1 := HG.out
    unfold getE at h1 ⊢
    rw [List.find?_eq_none] at h1 ⊢
    exact fun z hz => h1 z ((List.eraseIdx_sublist l (oldI l)).subset hz)
  have HG4 := hide hnone
  have HL4 := hide (lookF_none (eb := eb) hnone)
  rw [hrun]
  clear hrun hM4 ho4 hR4 hx4 q3 r3 lq3 lr3 hnone
  go_wp2_with fail
  obtain ⟨w5, hrun, hM5, ho5⟩ := ((HR4.out.map.alloc (.cells #[.int .u64 0, I64 0, I64 0, .slice none 0 0] 173))).store k32 Try.underlying162 (t := 162) (by simp only [maxLen]; omega) hk w4.heap.size
  rw [HL4.out] at hM5
  have hne : b ≠ w4.heap.size := by have := HR4.out.map.lt; omega
  have HO5 := hide (show Only [b] w4 w5 from (((Only.refl [] _).alloc _).mono (by simp)).trans ho5)
  have he5 : Blk w5 w4.heap.size entT [.int .u64 0, I64 0, I64 0, .slice none 0 0] := ho5.blk (Blk.newA rfl) (by simpa using hne.symm)
  have hx5 := HO5.out.blk HX4.out (by simpa using Ne.symm (HR4.out.map.ne HX4.out))
  have hq5 := HO5.out.blk HR4.out.me (by simpa using Ne.symm (HR4.out.map.ne HR4.out.me))
  have x0 := hx5.cell (i := 0) rfl
  have ltx := hx5.lt
  have d2 := hq5.cell (i := 2) rfl
  have ltq := hq5.lt
  have HE5 := hide he5
  have HM5 := hide hM5
  have hrun' := hrun
  rw [show (I64 0) = Value.int IntKind.i64 0 from rfl] at hrun'
  rw [hrun']
  clear hrun hrun' hq5 he5 hx5 hM5 ho5 q4 r4 lq4 lr4 hne
  go_wp2_with (at_lookup; refine wpList_ptr_some _ rfl _ _ 162 rfl u32T pentT k32 Try.underlying162 (zpent _) b (m + 1) _ _ rfl HM5.out _ (.int .u32 a) rfl hk w4.heap.size (updF_same _ _ _) ?_)
  go_ret
  refine ⟨_, _, ?_, by rw [HE.out]; exact HR4.out.add (by have := HBW.out; have := HO4.out.size; omega) HG4.out rfl (by simp) rfl HE5.out HO5.out HM5.out, HO4.out.trans HO5.out⟩
  show Ending.returned _ = .returned (.pointer (some ⟨(if a = a then _ else _), 0, none⟩))
  rw [if_pos rfl]
  rfl

end Go.Proofs.Ytlnejlhdkmneeaa
