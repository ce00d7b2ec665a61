/- The resolver: Submit. -/
import Derived.Test.YtlnejlhdkmneeaaResC
namespace Go.Proofs.Ytlnejlhdkmneeaa
open Go.RowKit

theorem ne_of_get {α : Type} {l : List α} {k : Nat} {x : α} (h : l[k]? = some x) : l ≠ [] := by rintro rfl; simp at h
def cutP (q : List Pkt) : List Pkt := if 4 < q.length then q.drop 1 else q
def subE (l : List Ent) (a : Int) (p : Pkt) (now : Int) : Ent := ⟨a, (inE l a).hw, (inE l a).ex, if (inE l a).wt.isEmpty then now else (inE l a).si, cutP ((inE l a).wt ++ [p])⟩
/-- What Submit leaves and answers: entries, clock, number, ask, error. -/
def subL (l : List Ent) (a : Int) (p : Pkt) (now clock : Int) : List Ent × Int × Int × Bool × Int :=
  if p.valid ≠ 0 then (l, clock, 0, false, 34) else if timeC now clock ≠ 0 then (l, clock, 0, false, timeC now clock)
  else if knownL l a now ≠ 0 then (l, now, knownL l a now, false, 0) else (setE (entL l a) (subE l a p now), now, 0, (inE l a).wt.isEmpty, 0)
theorem subL_bad {l : List Ent} {a : Int} {p : Pkt} {now clock : Int} (h : p.valid ≠ 0) : subL l a p now clock = (l, clock, 0, false, 34) := by unfold subL; rw [if_pos h]
theorem subL_time {l : List Ent} {a : Int} {p : Pkt} {now clock : Int} (h : p.valid = 0) (h2 : timeC now clock ≠ 0) : subL l a p now clock = (l, clock, 0, false, timeC now clock) := by unfold subL; rw [if_neg (by simpa using h), if_pos h2]
theorem subL_known {l : List Ent} {a : Int} {p : Pkt} {now clock : Int} (h : p.valid = 0) (h2 : timeC now clock = 0) (h3 : knownL l a now ≠ 0) : subL l a p now clock = (l, now, knownL l a now, false, 0) := by unfold subL; rw [if_neg (by simpa using h), if_neg (by simpa using h2), if_pos h3]
theorem subL_wait {l : List Ent} {a : Int} {p : Pkt} {now clock : Int} (h : p.valid = 0) (h2 : timeC now clock = 0) (h3 : knownL l a now = 0) : subL l a p now clock = (setE (entL l a) (subE l a p now), now, 0, (inE l a).wt.isEmpty, 0) := by unfold subL; rw [if_neg (by simpa using h), if_neg (by simpa using h2), if_neg (by simpa using h3)]

def SubmitS (base q b m : Nat) (life : Int) (r : List Ent × Int × Int × Bool × Int) (w : World) (e : Ending) (w' : World) : Prop :=
  ∃ eb vb, e = .returned (.tuple #[.int .u64 r.2.2.1, .bool r.2.2.2.1, I64 r.2.2.2.2]) ∧ ResAt base q b (m + 1) life r.2.1 r.1 eb vb w' ∧ OnlyM b resTs base w w'

theorem PkLie.snoc {w : World} {ps qs : List Pkt} (h : PkLie w ps qs) (p : Pkt) {B : Option Addr} {d : Nat} (hB : BytesBlk w B p.data) : PkLie w (ps ++ [p]) (qs ++ [p.at B d]) := by
  refine ⟨by simp [h.1], fun k r hr => ?_⟩
  rcases Nat.lt_or_ge k ps.length with hk | hk
  · rw [List.getElem?_append_left hk] at hr
    rw [List.getElem?_append_left (by rw [h.1]; exact hk)]
    exact h.2 k r hr
  · rw [List.getElem?_append_right hk] at hr
    obtain ⟨j, hj⟩ : ∃ j, k = ps.length + j := ⟨k - ps.length, by omega⟩
    subst hj
    rw [Nat.add_sub_cancel_left] at hr
    cases j with
    | succ j => simp at hr
    | zero =>
      obtain rfl : p = r := by simpa using hr
      exact ⟨B, d, by rw [List.getElem?_append_right (by rw [h.1]; omega), h.1]; simp, hB⟩
theorem PkLie.tail {w : World} {ps qs : List Pkt} (h : PkLie w ps qs) : PkLie w (ps.drop 1) (qs.drop 1) :=
  ⟨by simp [h.1], fun k r hr => by rw [List.getElem?_drop] at hr ⊢; exact h.2 _ r hr⟩
theorem flat_tail (qs : List Pkt) : (qs.flatMap Pkt.cells).drop 8 = (qs.drop 1).flatMap Pkt.cells := by
  cases qs with
  | nil => simp
  | cons q r =>
    rw [List.flatMap_cons, List.drop_left' (by rfl)]
    simp

theorem off_cap {w : World} {base : Nat} {e : TypeId} {size g o n cap : Nat} {xs : List Value} (h : offRow w base e size (.slice (some ⟨g, o, none⟩) n cap) n xs) : n ≤ cap := by
  rcases h.2 with ⟨h1, -⟩ | ⟨g', o', cap', cs, h1, -, -, h2, -⟩
  · cases h1
  · injection h1 with _ _ h3; omega
theorem mem_own {v : Value} {k : Nat} : k ∈ v.ownBlock.toList ↔ v.ownBlock = some k := by cases h : v.ownBlock <;> simp [eq_comm]

set_option maxRecDepth 100000 in
set_option maxHeartbeats 16000000 in
theorem submit_ok (base q b m : Nat) (life clock a now : Int) (p : Pkt) (l : List Ent) (eb : Int → Nat) (vb : Int → Value) (w : World) (h : ResAt base q b m life clock l eb vb w) (ha : 0 ≤ a ∧ a < 4294967296) (hm : m ≤ 1000000) (hbw : base ≤ w.heap.size)
    (hl : EntOk l a) (hw4 : ∀ x ∈ l, x.wt.length ≤ 4) (hA : NumsIn w .u8 p.A p.data) (hsz : p.data.length ≤ 1000000) (hA0 : p.A = none → p.data.length = 0 ∧ p.cap = 0)
    (hAb : ∀ g o s, p.A = some ⟨g, o, s⟩ → p.data ≠ [] → g < base) :
    Calls Try.prog 42 #[.pointer (some ⟨q, 0, none⟩), .int .u32 a, p.V, I64 now] w fun e w' => SubmitS base q b m life (subL l a p now clock) w e w' := by
  have hO : Only [] w (w.alloc (.cells #[.int .u32 p.src, .int .u32 p.dst, I64 p.proto, I64 p.ttl, I64 p.id, I64 p.off, .bool p.more, .slice p.A p.data.length p.cap] 30)) := (Only.refl [] w).alloc _
  have hX : Blk (w.alloc (.cells #[.int .u32 p.src, .int .u32 p.dst, I64 p.proto, I64 p.ttl, I64 p.id, I64 p.off, .bool p.more, .slice p.A p.data.length p.cap] 30)) w.heap.size 30 p.cells := Blk.newA rfl
  have hsm : p.data.length ≤ maxLen := by simp only [maxLen]; omega
  have H00 := hide h
  have H0 := hide (show _ ∧ _ ∧ _ from ⟨hO, hX, h.only hO⟩)
  have HSM := hide hsm
  have HNA := hide hA
  have HA0 := hide hA0
  have HBW := hide hbw
  have HAb := hide hAb
  have HL := hide hl
  have HW4 := hide hw4
  have HAA := hide ha
  show Calls Try.prog 42 #[.pointer (some ⟨q, 0, none⟩), .int .u32 a, .agg #[.int .u32 p.src, .int .u32 p.dst, I64 p.proto, I64 p.ttl, I64 p.id, I64 p.off, .bool p.more, .slice p.A p.data.length p.cap], I64 now] w _
  clear hO hX h hsm hA hA0 hbw hl hw4 ha hAb
  by_cases hv : p.valid = 0
  · have HV := hide hv
    by_cases ht : timeC now clock = 0
    · have HT := hide ht
      by_cases hk : knownL l a now = 0
      · have HK := hide hk
        have hR := hide (subL_wait hv ht hk)
        have hxl : (inE l a).wt.length ≤ 4 := by
          unfold inE
          cases hg : getE l a with
          | none => simp [newE]
          | some x => exact HW4.out x (getE_some hg).1
        clear hv ht hk
        go_enter Try.func42, Try.ntmps42
        go_wp2_with fail
        refine (Valid_ok p _ HSM.out).mono ?_
        rintro e w1 ⟨rfl, ho1⟩
        rw [HV.out]
        have H1 := hide (show _ ∧ _ ∧ _ from ⟨Only.trans H0.out.1 ho1, ho1.blk H0.out.2.1 (by simp), H0.out.2.2.only ho1⟩)
        clear ho1 H0
        go_wp2_with fail
        refine (time_ok q life clock now _ _ H1.out.2.2.me).mono ?_
        rintro e w1x ⟨rfl, rfl⟩
        rw [HT.out]
        have c1 := H1.out.2.2.me.frozen 1
        have d1 := H1.out.2.2.me.cell (i := 1) rfl
        have ltq := H1.out.2.2.me.lt
        go_wp2_with fail
        refine (known_ok base q b m life now a now l eb vb _ (H1.out.2.2.clockTo now) HAA.out).mono ?_
        rintro e w2 ⟨rfl, rfl⟩
        rw [HK.out]
        go_wp2_with fail
        refine (entry_ok base q b m life now a l eb vb _ (H1.out.2.2.clockTo now) HAA.out hm (by have := HBW.out; have := H1.out.1.size; simp [World.setCell]; omega) HL.out).mono ?_
        rintro e w3 ⟨eb2, vb2, rfl, h3, ho3⟩
        have hxm := inE_mem l a
        have hE := h3.ents _ hxm
        rw [inE_a] at hE
        obtain ⟨qs, hr1, hr2⟩ := hE.row
        have hx3 : Blk w3 w.heap.size 30 p.cells := ho3.blk (H1.out.2.1.far (by simpa using H1.out.2.1.ne H1.out.2.2.me (by decide)) _) (by simpa using Ne.symm ((H1.out.2.2.clockTo now).map.ne (H1.out.2.1.far (by simpa using H1.out.2.1.ne H1.out.2.2.me (by decide)) _)))
        have hne := (h3.ne_q hxm).2.2.1
        rw [inE_a] at hne
        obtain ⟨vv, hvv⟩ : ∃ v, v = vb2 a := ⟨_, rfl⟩
        rw [← hvv] at hr1 hne
        have hme := hE.me
        rw [← hvv] at hme
        obtain ⟨n, hn⟩ : ∃ n, n = (inE l a).wt.length := ⟨_, rfl⟩
        rw [← hn] at hr1 hxl
        obtain ⟨A, c, rfl⟩ := off_shape hr1
        have HN := hide hn
        have HVV := hide hvv
        have hof : Only [q] w1x (w1x.setCell ⟨q, 1, none⟩ (I64 now)) := (Only.refl _ _).set (p := ⟨q, 1, none⟩) (.inl (by simp)) _
        have HF := hide (show OnlyM b resTs base w w3 from ((OnlyM.of (OnlyT.of_nil H1.out.1)).trans (H1.out.2.2.frame hof (by simp))).trans ((H1.out.2.2.clockTo now).frame ho3 (by simp)))
        have HOW := hide (show w.heap.size ≤ w3.heap.size from HF.out.size)
        have HNA3 := hide (show NumsIn w3 .u8 p.A p.data by
          intro k x hx
          obtain ⟨b0, o0, e0, hc0⟩ := HNA.out k x hx
          refine ⟨b0, o0, e0, ?_⟩
          rw [← hc0]
          exact World.cell?_of_block (HF.out.block b0 (World.block_lt_of_cell? _ _ hc0) (by have := HAb.out _ _ _ e0 (ne_of_get hx); have := H00.out.bb; omega) (.inl (HAb.out _ _ _ e0 (ne_of_get hx)))))
        have H3 := hide (show _ ∧ _ ∧ _ ∧ _ ∧ _ ∧ _ from ⟨h3, hme, hr1, hr2, hx3, hne⟩)
        have e3 := hme.cell (i := 3) rfl
        have elt := hme.lt
        clear h3 hE hme hr1 hr2 hx3 hne hvv hn c1 d1 ltq ho3 hof H1
        by_cases hn0 : n = 0
        · subst hn0
          have e2 := H3.out.2.1.cell (i := 2) rfl
          have f2 := H3.out.2.1.frozen 2
          obtain ⟨W4, hW4⟩ : ∃ W, W = w3.setCell ⟨eb2 a, 2, none⟩ (I64 now) := ⟨_, rfl⟩
          have ho4 : Only [eb2 a] w3 W4 := by rw [hW4]; exact (Only.refl _ _).set (p := ⟨eb2 a, 2, none⟩) (.inl (by simp)) _
          have HB4 := hide (show Blk W4 (eb2 a) entT [.int .u64 (inE l a).hw, I64 (inE l a).ex, I64 now, .slice A 0 c] from by rw [hW4]; exact H3.out.2.1.set 2 (I64 now))
          have HX4 := hide (ho4.blk H3.out.2.2.2.2.1 (by simpa using H3.out.2.2.2.2.1.ne H3.out.2.1 (by decide)))
          have HR4 := hide (off_only H3.out.2.2.1 ho4 (fun k hk => by simp; rintro rfl; exact H3.out.2.2.2.2.2 hk))
          have HP4 := hide (H3.out.2.2.2.1.sameOn (fun k cs hk => ho4.block k hk.lt (by simpa using hk.ne H3.out.2.1 (by decide))))
          have HNA4 := hide (show NumsIn W4 .u8 p.A p.data by
            intro k x hx
            obtain ⟨b0, o0, e0, hc0⟩ := HNA3.out k x hx
            refine ⟨b0, o0, e0, ?_⟩
            rw [← hc0]
            refine World.cell?_of_block (ho4.block b0 (World.block_lt_of_cell? _ _ hc0) ?_)
            have h1 := HAb.out _ _ _ e0 (ne_of_get hx)
            have h2 := H3.out.1.be _ hxm
            rw [inE_a] at h2
            simp; omega)
          have HO4 := hide ho4
          clear ho4
          go_wp2
          rw [← hW4]
          clear hW4 e2 f2 e3 elt
          have x0 := HX4.out.cell (i := 0) rfl
          have x1 := HX4.out.cell (i := 1) rfl
          have x2 := HX4.out.cell (i := 2) rfl
          have x3 := HX4.out.cell (i := 3) rfl
          have x4 := HX4.out.cell (i := 4) rfl
          have x5 := HX4.out.cell (i := 5) rfl
          have x6 := HX4.out.cell (i := 6) rfl
          have x7 := HX4.out.cell (i := 7) rfl
          have ltx := HX4.out.lt
          have e3 := HB4.out.cell (i := 3) rfl
          have elt := HB4.out.lt
          refine wp_region_text 8 [6, 7] [0, 1, 2, 3] [4] (fun w' => w'.cell? ⟨eb2 a, 3, none⟩ = some (.slice A 0 c)) (by kernel_rfl) (by kernel_rfl) e3 ?_
          simp only [List.take_succ_cons, List.take_zero, List.drop_succ_cons, List.drop_zero]
          repeat (first | ((refine wpText_h rfl rfl ?_; apply Exists.intro; refine ⟨?_, ?_⟩; next => (go_simp; (try (go_bits; go_simp)); (first | done | with_reducible rfl | (rw [if_neg (by omega)]; (try (go_bits; go_simp)); (first | done | with_reducible rfl)) | (rw [if_pos (by omega)]; (try (go_bits; go_simp)); (first | done | with_reducible rfl))))); (try simp only [Act.put, List.setIfInBounds_toArray, List.set_cons_zero, List.set_cons_succ])) | ((refine wpText_p rfl rfl ?_; apply Exists.intro; refine ⟨?_, ?_⟩; next => (intro w'; go_simp; (try (go_bits; go_simp)); (first | done | with_reducible rfl | (rw [if_neg (by omega)]; (try (go_bits; go_simp)); (first | done | with_reducible rfl)) | (rw [if_pos (by omega)]; (try (go_bits; go_simp)); (first | done | with_reducible rfl))))); (try simp only [Act.put, List.setIfInBounds_toArray, List.set_cons_zero, List.set_cons_succ])) | ((refine wpText_y rfl rfl ?_; apply Exists.intro; refine ⟨?_, ?_⟩; next => (intro w' hS; (first | obtain ⟨_, rfl⟩ := hS | skip); go_simp; (try (go_bits; go_simp)); (first | done | with_reducible rfl | (rw [if_neg (by omega)]; (try (go_bits; go_simp)); (first | done | with_reducible rfl)) | (rw [if_pos (by omega)]; (try (go_bits; go_simp)); (first | done | with_reducible rfl))))); (try simp only [Act.put, List.setIfInBounds_toArray, List.set_cons_zero, List.set_cons_succ])) | (refine wpText_skip (by first | exact .inl rfl | exact .inr (.inl rfl) | exact .inr (.inr rfl)) rfl ?_; (try simp only [Act.put, List.setIfInBounds_toArray, List.set_cons_zero, List.set_cons_succ])))
          refine wpText_e rfl rfl (fun K hK => ?_)
          go_wp2_with fail
          refine (pcloneB_ok p _ (HNA4.out.only ((Only.refl [] _).drew)) hsz HA0.out).mono ?_
          rintro e w5 ⟨A5, c5, rfl, ho5, hb5⟩
          have hb45 : Only [] W4 w5 := Only.trans ((Only.refl [] W4).drew) ho5
          have hB5 := hb45.blk HB4.out (by simp)
          have e35 := hB5.cell (i := 3) rfl
          have HB5 := hide hB5
          refine hK _ _ e35 ?_
          clear hK K
          have H5 := hide (And.intro hb45 hb5)
          clear ho5 hb5 hb45 hB5 x0 x1 x2 x3 x4 x5 x6 x7 ltx e3 elt
          repeat (first | ((refine wpText_h rfl rfl ?_; apply Exists.intro; refine ⟨?_, ?_⟩; next => (go_simp; (try (go_bits; go_simp)); (first | done | with_reducible rfl | (rw [if_neg (by omega)]; (try (go_bits; go_simp)); (first | done | with_reducible rfl)) | (rw [if_pos (by omega)]; (try (go_bits; go_simp)); (first | done | with_reducible rfl))))); (try simp only [Act.put, List.setIfInBounds_toArray, List.set_cons_zero, List.set_cons_succ])) | ((refine wpText_p rfl rfl ?_; apply Exists.intro; refine ⟨?_, ?_⟩; next => (intro w'; go_simp; (try (go_bits; go_simp)); (first | done | with_reducible rfl | (rw [if_neg (by omega)]; (try (go_bits; go_simp)); (first | done | with_reducible rfl)) | (rw [if_pos (by omega)]; (try (go_bits; go_simp)); (first | done | with_reducible rfl))))); (try simp only [Act.put, List.setIfInBounds_toArray, List.set_cons_zero, List.set_cons_succ])) | ((refine wpText_y rfl rfl ?_; apply Exists.intro; refine ⟨?_, ?_⟩; next => (intro w' hS; (first | obtain ⟨_, rfl⟩ := hS | skip); go_simp; (try (go_bits; go_simp)); (first | done | with_reducible rfl | (rw [if_neg (by omega)]; (try (go_bits; go_simp)); (first | done | with_reducible rfl)) | (rw [if_pos (by omega)]; (try (go_bits; go_simp)); (first | done | with_reducible rfl))))); (try simp only [Act.put, List.setIfInBounds_toArray, List.set_cons_zero, List.set_cons_succ])) | (refine wpText_skip (by first | exact .inl rfl | exact .inr (.inl rfl) | exact .inr (.inr rfl)) rfl ?_; (try simp only [Act.put, List.setIfInBounds_toArray, List.set_cons_zero, List.set_cons_succ])))
          refine wpText_e rfl rfl (fun K hK => ?_)
          go_wp2
          refine hK _ _ ((HB5.out.alloc _).cell (i := 3) rfl) ?_
          clear hK K
          try simp only [Act.put, List.setIfInBounds_toArray, List.set_cons_zero, List.set_cons_succ]
          refine wpText_nil ?_
          obtain ⟨i0, hi0, hz0, hs0, hb0⟩ := info_parts packet_info
          have HROW := hide (off_keep HR4.out H5.out.1)
          have HSZ := hide (show base ≤ w5.heap.size by have h1 := HBW.out; have h2 := HOW.out; have h3 := HO4.out.size; have h4 := H5.out.1.size; omega)
          go_wp2_with (at_builtin; refine wpList_append_off _ rfl (.tmp 56) (.tmp 59) 39 rfl pktT i0 (.agg zsP.toArray) 8 72 Try.underlying39 hi0 hz0 hs0 hb0 rfl (by decide) base (.slice A 0 c) 0 (qs.flatMap Pkt.cells) rfl (off_keep HROW.out ((Only.refl [] w5).alloc _)) (Nat.le_trans HSZ.out ((Only.refl [] w5).alloc _).size) ⟨w5.heap.size, 0, none⟩ 1 1 (p.at A5 c5).cells rfl rfl ?_ (by simp [Pkt.cells, Pkt.at, Value.oneCell']) (by simp only [maxLen]; omega) (by omega) ?_)
          · intro j u hu
            rw [show (⟨w5.heap.size, 0, none⟩ : Addr).add j = ⟨w5.heap.size, j, none⟩ by unfold Addr.add; split <;> simp_all]
            exact ((Blk.newA (c := #[.int .u32 p.src, .int .u32 p.dst, I64 p.proto, I64 p.ttl, I64 p.id, I64 p.off, .bool p.more, .slice A5 p.data.length c5]) rfl)).cell hu
          intro v6 w6 hr6 ho6 hv6
          have hnb := H3.out.2.2.2.2.2
          have hB6 := ho6.blk (HB5.out.alloc (.cells #[.int .u32 p.src, .int .u32 p.dst, I64 p.proto, I64 p.ttl, I64 p.id, I64 p.off, .bool p.more, .slice A5 p.data.length c5] 30)) (fun hh => hnb (mem_own.1 hh))
          have hu6 : ∀ k cs, Blk w5 k u8T cs → w6.heap[k]? = w5.heap[k]? := by
            intro k cs hk
            have h1 := off_ne_blk HROW.out hk (by decide)
            exact (ho6.block k (by have := hk.lt; simp; omega) (fun hh => h1 (mem_own.1 hh))).trans (Below.heap_alloc w5 _ k hk.lt)
          have hp6 := ((HP4.out.only H5.out.1).sameOn hu6).snoc p (B := A5) (d := c5) (H5.out.2.sameOn hu6)
          have hS6 : Only (eb2 a :: (Value.slice A 0 c).ownBlock.toList) w3 w6 := (((HO4.out.mono (by simp)).trans (H5.out.1.mono (by simp))).trans (((Only.refl [] w5).alloc (.cells #[.int .u32 p.src, .int .u32 p.dst, I64 p.proto, I64 p.ttl, I64 p.id, I64 p.off, .bool p.more, .slice A5 p.data.length c5] 30)).mono (by simp))).trans (ho6.mono (fun k hk _ => List.mem_cons_of_mem _ hk))
          have hn6 := off_ne_blk hr6 hB6 (by decide)
          have hv6' : v6.ownBlock = (Value.slice A 0 c).ownBlock ∨ ∀ k, v6.ownBlock = some k → w3.heap.size ≤ k := hv6.imp id fun hh k hk => by
            have h1 : w5.heap.size + 1 ≤ k := hh k hk
            have h2 := HO4.out.size
            have h3 := H5.out.1.size
            omega
          have hfl : (qs ++ [p.at A5 c5]).flatMap Pkt.cells = qs.flatMap Pkt.cells ++ (p.at A5 c5).cells := by simp
          rw [← hfl] at hr6
          obtain ⟨A6, c6, rfl⟩ := off_shape hr6
          have f63 := hB6.frozen 3
          have e63 := hB6.cell (i := 3) rfl
          have lt6 := hB6.lt
          have H6 := hide (show _ ∧ _ ∧ _ ∧ _ ∧ _ ∧ _ from ⟨hB6, hp6, hS6, hn6, hv6', hr6⟩)
          clear hB6 hp6 hS6 hn6 hv6' hv6 hr6 hfl ho6 hnb hu6
          go_wp2
          refine NoX.normal ?_
          go_wp2
          go_ret3
          rw [hR.out]
          have hsub : subE l a p now = ⟨a, (inE l a).hw, (inE l a).ex, now, (inE l a).wt ++ [p]⟩ := by
            have h0 := HN.out
            unfold subE cutP
            rw [show (inE l a).wt.isEmpty = true by rw [List.isEmpty_iff]; exact List.eq_nil_of_length_eq_zero HN.out.symm]
            rw [if_neg (show ¬ 4 < ((inE l a).wt ++ [p]).length by rw [List.length_append, ← h0]; simp; try omega)]
            rfl
          rw [hsub]
          have hxa := inE_a l a
          have hset : Only [eb2 a] w6 (w6.setCell ⟨eb2 a, 3, none⟩ (.slice A6 (0 + 1) c6)) := (Only.refl _ _).set (p := ⟨eb2 a, 3, none⟩) (.inl (by simp)) _
          have hS7 := H6.out.2.2.1.trans (hset.mono (fun k hk _ => List.mem_cons.2 (.inl (by simpa using hk))))
          have hput := H3.out.1.put (y := ⟨a, (inE l a).hw, (inE l a).ex, now, (inE l a).wt ++ [p]⟩) hxm hxa.symm (v' := (.slice A6 (0 + 1) c6)) (w' := w6.setCell ⟨eb2 a, 3, none⟩ (.slice A6 (0 + 1) c6)) (by rw [hxa, ← HVV.out]; exact hS7)
            (by
              rw [hxa]
              refine ⟨H6.out.1.set 3 _, qs ++ [p.at A5 c5], ?_, H6.out.2.1.sameOn (fun k cs hk => hset.block k hk.lt (by simpa using hk.ne H6.out.1 (by decide)))⟩
              have h1 := off_set H6.out.2.2.2.2.2 (p := ⟨eb2 a, 3, none⟩) H6.out.2.2.2.1 (.slice A6 (0 + 1) c6)
              simpa [← HN.out] using h1)
            (by rw [hxa, ← HVV.out]; exact H6.out.2.2.2.2.1)
          exact ⟨_, _, by rw [show (inE l a).wt.isEmpty = true by rw [List.isEmpty_iff]; exact List.eq_nil_of_length_eq_zero HN.out.symm]; rfl, hput, HF.out.trans (H3.out.1.frame hS7 (fun k hk _ => .inr (.inr ⟨_, hxm, by rw [hxa, ← HVV.out]; exact (List.mem_cons.1 hk).imp id mem_own.1⟩)))⟩
        · by_cases hn4 : n = 4
          · subst hn4
            go_wp2
            have HB4 := hide H3.out.2.1
            have HX4 := hide H3.out.2.2.2.2.1
            have HR4 := hide H3.out.2.2.1
            have HP4 := hide H3.out.2.2.2.1
            have HO4 := hide (Only.refl [eb2 a] w3)
            have HNA4 := HNA3
            clear e3 elt
            have x0 := HX4.out.cell (i := 0) rfl
            have x1 := HX4.out.cell (i := 1) rfl
            have x2 := HX4.out.cell (i := 2) rfl
            have x3 := HX4.out.cell (i := 3) rfl
            have x4 := HX4.out.cell (i := 4) rfl
            have x5 := HX4.out.cell (i := 5) rfl
            have x6 := HX4.out.cell (i := 6) rfl
            have x7 := HX4.out.cell (i := 7) rfl
            have ltx := HX4.out.lt
            have e3 := HB4.out.cell (i := 3) rfl
            have elt := HB4.out.lt
            refine wp_region_text 8 [6, 7] [0, 1, 2, 3] [4] (fun w' => w'.cell? ⟨eb2 a, 3, none⟩ = some (.slice A 4 c)) (by kernel_rfl) (by kernel_rfl) e3 ?_
            simp only [List.take_succ_cons, List.take_zero, List.drop_succ_cons, List.drop_zero]
            repeat (first | ((refine wpText_h rfl rfl ?_; apply Exists.intro; refine ⟨?_, ?_⟩; next => (go_simp; (try (go_bits; go_simp)); (first | done | with_reducible rfl | (rw [if_neg (by omega)]; (try (go_bits; go_simp)); (first | done | with_reducible rfl)) | (rw [if_pos (by omega)]; (try (go_bits; go_simp)); (first | done | with_reducible rfl))))); (try simp only [Act.put, List.setIfInBounds_toArray, List.set_cons_zero, List.set_cons_succ])) | ((refine wpText_p rfl rfl ?_; apply Exists.intro; refine ⟨?_, ?_⟩; next => (intro w'; go_simp; (try (go_bits; go_simp)); (first | done | with_reducible rfl | (rw [if_neg (by omega)]; (try (go_bits; go_simp)); (first | done | with_reducible rfl)) | (rw [if_pos (by omega)]; (try (go_bits; go_simp)); (first | done | with_reducible rfl))))); (try simp only [Act.put, List.setIfInBounds_toArray, List.set_cons_zero, List.set_cons_succ])) | ((refine wpText_y rfl rfl ?_; apply Exists.intro; refine ⟨?_, ?_⟩; next => (intro w' hS; (first | obtain ⟨_, rfl⟩ := hS | skip); go_simp; (try (go_bits; go_simp)); (first | done | with_reducible rfl | (rw [if_neg (by omega)]; (try (go_bits; go_simp)); (first | done | with_reducible rfl)) | (rw [if_pos (by omega)]; (try (go_bits; go_simp)); (first | done | with_reducible rfl))))); (try simp only [Act.put, List.setIfInBounds_toArray, List.set_cons_zero, List.set_cons_succ])) | (refine wpText_skip (by first | exact .inl rfl | exact .inr (.inl rfl) | exact .inr (.inr rfl)) rfl ?_; (try simp only [Act.put, List.setIfInBounds_toArray, List.set_cons_zero, List.set_cons_succ])))
            refine wpText_e rfl rfl (fun K hK => ?_)
            go_wp2_with fail
            refine (pcloneB_ok p _ (HNA4.out.only ((Only.refl [] _).drew)) hsz HA0.out).mono ?_
            rintro e w5 ⟨A5, c5, rfl, ho5, hb5⟩
            have hb45 : Only [] w3 w5 := Only.trans ((Only.refl [] w3).drew) ho5
            have hB5 := hb45.blk HB4.out (by simp)
            have e35 := hB5.cell (i := 3) rfl
            have HB5 := hide hB5
            refine hK _ _ e35 ?_
            clear hK K
            have H5 := hide (And.intro hb45 hb5)
            clear ho5 hb5 hb45 hB5 x0 x1 x2 x3 x4 x5 x6 x7 ltx e3 elt
            repeat (first | ((refine wpText_h rfl rfl ?_; apply Exists.intro; refine ⟨?_, ?_⟩; next => (go_simp; (try (go_bits; go_simp)); (first | done | with_reducible rfl | (rw [if_neg (by omega)]; (try (go_bits; go_simp)); (first | done | with_reducible rfl)) | (rw [if_pos (by omega)]; (try (go_bits; go_simp)); (first | done | with_reducible rfl))))); (try simp only [Act.put, List.setIfInBounds_toArray, List.set_cons_zero, List.set_cons_succ])) | ((refine wpText_p rfl rfl ?_; apply Exists.intro; refine ⟨?_, ?_⟩; next => (intro w'; go_simp; (try (go_bits; go_simp)); (first | done | with_reducible rfl | (rw [if_neg (by omega)]; (try (go_bits; go_simp)); (first | done | with_reducible rfl)) | (rw [if_pos (by omega)]; (try (go_bits; go_simp)); (first | done | with_reducible rfl))))); (try simp only [Act.put, List.setIfInBounds_toArray, List.set_cons_zero, List.set_cons_succ])) | ((refine wpText_y rfl rfl ?_; apply Exists.intro; refine ⟨?_, ?_⟩; next => (intro w' hS; (first | obtain ⟨_, rfl⟩ := hS | skip); go_simp; (try (go_bits; go_simp)); (first | done | with_reducible rfl | (rw [if_neg (by omega)]; (try (go_bits; go_simp)); (first | done | with_reducible rfl)) | (rw [if_pos (by omega)]; (try (go_bits; go_simp)); (first | done | with_reducible rfl))))); (try simp only [Act.put, List.setIfInBounds_toArray, List.set_cons_zero, List.set_cons_succ])) | (refine wpText_skip (by first | exact .inl rfl | exact .inr (.inl rfl) | exact .inr (.inr rfl)) rfl ?_; (try simp only [Act.put, List.setIfInBounds_toArray, List.set_cons_zero, List.set_cons_succ])))
            refine wpText_e rfl rfl (fun K hK => ?_)
            go_wp2
            refine hK _ _ ((HB5.out.alloc _).cell (i := 3) rfl) ?_
            clear hK K
            try simp only [Act.put, List.setIfInBounds_toArray, List.set_cons_zero, List.set_cons_succ]
            refine wpText_nil ?_
            obtain ⟨i0, hi0, hz0, hs0, hb0⟩ := info_parts packet_info
            have HROW := hide (off_keep HR4.out H5.out.1)
            have HSZ := hide (show base ≤ w5.heap.size by have h1 := HBW.out; have h2 := HOW.out; have h3 := HO4.out.size; have h4 := H5.out.1.size; omega)
            go_wp2_with (at_builtin; refine wpList_append_off _ rfl (.tmp 56) (.tmp 59) 39 rfl pktT i0 (.agg zsP.toArray) 8 72 Try.underlying39 hi0 hz0 hs0 hb0 rfl (by decide) base (.slice A 4 c) 4 (qs.flatMap Pkt.cells) rfl (off_keep HROW.out ((Only.refl [] w5).alloc _)) (Nat.le_trans HSZ.out ((Only.refl [] w5).alloc _).size) ⟨w5.heap.size, 0, none⟩ 1 1 (p.at A5 c5).cells rfl rfl ?_ (by simp [Pkt.cells, Pkt.at, Value.oneCell']) (by simp only [maxLen]; omega) (by omega) ?_)
            · intro j u hu
              rw [show (⟨w5.heap.size, 0, none⟩ : Addr).add j = ⟨w5.heap.size, j, none⟩ by unfold Addr.add; split <;> simp_all]
              exact ((Blk.newA (c := #[.int .u32 p.src, .int .u32 p.dst, I64 p.proto, I64 p.ttl, I64 p.id, I64 p.off, .bool p.more, .slice A5 p.data.length c5]) rfl)).cell hu
            intro v6 w6 hr6 ho6 hv6
            have hnb := H3.out.2.2.2.2.2
            have hB6 := ho6.blk (HB5.out.alloc (.cells #[.int .u32 p.src, .int .u32 p.dst, I64 p.proto, I64 p.ttl, I64 p.id, I64 p.off, .bool p.more, .slice A5 p.data.length c5] 30)) (fun hh => hnb (mem_own.1 hh))
            have hu6 : ∀ k cs, Blk w5 k u8T cs → w6.heap[k]? = w5.heap[k]? := by
              intro k cs hk
              have h1 := off_ne_blk HROW.out hk (by decide)
              exact (ho6.block k (by have := hk.lt; simp; omega) (fun hh => h1 (mem_own.1 hh))).trans (Below.heap_alloc w5 _ k hk.lt)
            have hp6 := ((HP4.out.only H5.out.1).sameOn hu6).snoc p (B := A5) (d := c5) (H5.out.2.sameOn hu6)
            have hS6 : Only (eb2 a :: (Value.slice A 4 c).ownBlock.toList) w3 w6 := (((HO4.out.mono (by simp)).trans (H5.out.1.mono (by simp))).trans (((Only.refl [] w5).alloc (.cells #[.int .u32 p.src, .int .u32 p.dst, I64 p.proto, I64 p.ttl, I64 p.id, I64 p.off, .bool p.more, .slice A5 p.data.length c5] 30)).mono (by simp))).trans (ho6.mono (fun k hk _ => List.mem_cons_of_mem _ hk))
            have hn6 := off_ne_blk hr6 hB6 (by decide)
            have hv6' : v6.ownBlock = (Value.slice A 4 c).ownBlock ∨ ∀ k, v6.ownBlock = some k → w3.heap.size ≤ k := hv6.imp id fun hh k hk => by
              have h1 : w5.heap.size + 1 ≤ k := hh k hk
              have h2 := HO4.out.size
              have h3 := H5.out.1.size
              omega
            have hfl : (qs ++ [p.at A5 c5]).flatMap Pkt.cells = qs.flatMap Pkt.cells ++ (p.at A5 c5).cells := by simp
            rw [← hfl] at hr6
            obtain ⟨g6, o6, c6, rfl, hr7⟩ := off_tail hr6
            have hc6 : ¬ c6 = 0 := by have := off_cap hr7; omega
            have HR7 := hide hr7
            clear hr7
            have f63 := hB6.frozen 3
            have e63 := hB6.cell (i := 3) rfl
            have lt6 := hB6.lt
            have H6 := hide (show _ ∧ _ ∧ _ ∧ _ ∧ _ ∧ _ from ⟨hB6, hp6, hS6, hn6, hv6', hr6⟩)
            clear hB6 hp6 hS6 hn6 hv6' hv6 hr6 hfl ho6 hnb hu6
            go_wp2
            refine NoX.normal ?_
            go_wp2
            go_ret3
            rw [hR.out]
            have hsub : subE l a p now = ⟨a, (inE l a).hw, (inE l a).ex, (inE l a).si, ((inE l a).wt ++ [p]).drop 1⟩ := by
              have h0 := HN.out
              unfold subE cutP
              rw [show (inE l a).wt.isEmpty = false by have := HN.out; cases hw : (inE l a).wt with | nil => rw [hw] at this; simp at this | cons _ _ => rfl]
              rw [if_pos (show 4 < ((inE l a).wt ++ [p]).length by rw [List.length_append, ← h0]; simp)]
              rfl
            rw [hsub]
            have hxa := inE_a l a
            have hset : Only [eb2 a] w6 ((w6.setCell ⟨eb2 a, 3, none⟩ (.slice (some ⟨g6, o6, none⟩) (4 + 1) (c6 + 1))).setCell ⟨eb2 a, 3, none⟩ (.slice (some ⟨g6, o6 + 8, none⟩) 4 c6)) := ((Only.refl _ _).set (p := ⟨eb2 a, 3, none⟩) (.inl (by simp)) _).set (p := ⟨eb2 a, 3, none⟩) (.inl (by simp)) _
            have hS7 := H6.out.2.2.1.trans (hset.mono (fun k hk _ => List.mem_cons.2 (.inl (by simpa using hk))))
            have hput := H3.out.1.put (y := ⟨a, (inE l a).hw, (inE l a).ex, (inE l a).si, ((inE l a).wt ++ [p]).drop 1⟩) hxm hxa.symm (v' := (.slice (some ⟨g6, o6 + 8, none⟩) 4 c6)) (w' := (w6.setCell ⟨eb2 a, 3, none⟩ (.slice (some ⟨g6, o6, none⟩) (4 + 1) (c6 + 1))).setCell ⟨eb2 a, 3, none⟩ (.slice (some ⟨g6, o6 + 8, none⟩) 4 c6)) (by rw [hxa, ← HVV.out]; exact hS7)
              (by
                rw [hxa]
                refine ⟨(H6.out.1.set 3 _).set 3 _, (qs ++ [p.at A5 c5]).drop 1, ?_, (H6.out.2.1.sameOn (fun k cs hk => hset.block k hk.lt (by simpa using hk.ne H6.out.1 (by decide)))).tail⟩
                have h1 := off_set (off_set HR7.out (p := ⟨eb2 a, 3, none⟩) H6.out.2.2.2.1 (.slice (some ⟨g6, o6, none⟩) (4 + 1) (c6 + 1))) (p := ⟨eb2 a, 3, none⟩) H6.out.2.2.2.1 (.slice (some ⟨g6, o6 + 8, none⟩) 4 c6)
                rw [flat_tail] at h1
                have h2 : (((inE l a).wt ++ [p]).drop 1).length = 4 := by rw [List.length_drop, List.length_append, ← HN.out]; rfl
                rw [h2]
                exact h1)
              (by rw [hxa, ← HVV.out]; exact H6.out.2.2.2.2.1)
            exact ⟨_, _, by rw [show (inE l a).wt.isEmpty = false by have := HN.out; cases hw : (inE l a).wt with | nil => rw [hw] at this; simp at this | cons _ _ => rfl]; rfl, hput, HF.out.trans (H3.out.1.frame hS7 (fun k hk _ => .inr (.inr ⟨_, hxm, by rw [hxa, ← HVV.out]; exact (List.mem_cons.1 hk).imp id mem_own.1⟩)))⟩
          · have hnn : ((n : Int) == 0) = false := by simp [hn0]
            go_wp2
            have HB4 := hide H3.out.2.1
            have HX4 := hide H3.out.2.2.2.2.1
            have HR4 := hide H3.out.2.2.1
            have HP4 := hide H3.out.2.2.2.1
            have HO4 := hide (Only.refl [eb2 a] w3)
            have HNA4 := HNA3
            clear e3 elt
            have x0 := HX4.out.cell (i := 0) rfl
            have x1 := HX4.out.cell (i := 1) rfl
            have x2 := HX4.out.cell (i := 2) rfl
            have x3 := HX4.out.cell (i := 3) rfl
            have x4 := HX4.out.cell (i := 4) rfl
            have x5 := HX4.out.cell (i := 5) rfl
            have x6 := HX4.out.cell (i := 6) rfl
            have x7 := HX4.out.cell (i := 7) rfl
            have ltx := HX4.out.lt
            have e3 := HB4.out.cell (i := 3) rfl
            have elt := HB4.out.lt
            refine wp_region_text 8 [6, 7] [0, 1, 2, 3] [4] (fun w' => w'.cell? ⟨eb2 a, 3, none⟩ = some (.slice A n c)) (by kernel_rfl) (by kernel_rfl) e3 ?_
            simp only [List.take_succ_cons, List.take_zero, List.drop_succ_cons, List.drop_zero]
            repeat (first | ((refine wpText_h rfl rfl ?_; apply Exists.intro; refine ⟨?_, ?_⟩; next => (go_simp; (try (go_bits; go_simp)); (first | done | with_reducible rfl | (rw [if_neg (by omega)]; (try (go_bits; go_simp)); (first | done | with_reducible rfl)) | (rw [if_pos (by omega)]; (try (go_bits; go_simp)); (first | done | with_reducible rfl))))); (try simp only [Act.put, List.setIfInBounds_toArray, List.set_cons_zero, List.set_cons_succ])) | ((refine wpText_p rfl rfl ?_; apply Exists.intro; refine ⟨?_, ?_⟩; next => (intro w'; go_simp; (try (go_bits; go_simp)); (first | done | with_reducible rfl | (rw [if_neg (by omega)]; (try (go_bits; go_simp)); (first | done | with_reducible rfl)) | (rw [if_pos (by omega)]; (try (go_bits; go_simp)); (first | done | with_reducible rfl))))); (try simp only [Act.put, List.setIfInBounds_toArray, List.set_cons_zero, List.set_cons_succ])) | ((refine wpText_y rfl rfl ?_; apply Exists.intro; refine ⟨?_, ?_⟩; next => (intro w' hS; (first | obtain ⟨_, rfl⟩ := hS | skip); go_simp; (try (go_bits; go_simp)); (first | done | with_reducible rfl | (rw [if_neg (by omega)]; (try (go_bits; go_simp)); (first | done | with_reducible rfl)) | (rw [if_pos (by omega)]; (try (go_bits; go_simp)); (first | done | with_reducible rfl))))); (try simp only [Act.put, List.setIfInBounds_toArray, List.set_cons_zero, List.set_cons_succ])) | (refine wpText_skip (by first | exact .inl rfl | exact .inr (.inl rfl) | exact .inr (.inr rfl)) rfl ?_; (try simp only [Act.put, List.setIfInBounds_toArray, List.set_cons_zero, List.set_cons_succ])))
            refine wpText_e rfl rfl (fun K hK => ?_)
            go_wp2_with fail
            refine (pcloneB_ok p _ (HNA4.out.only ((Only.refl [] _).drew)) hsz HA0.out).mono ?_
            rintro e w5 ⟨A5, c5, rfl, ho5, hb5⟩
            have hb45 : Only [] w3 w5 := Only.trans ((Only.refl [] w3).drew) ho5
            have hB5 := hb45.blk HB4.out (by simp)
            have e35 := hB5.cell (i := 3) rfl
            have HB5 := hide hB5
            refine hK _ _ e35 ?_
            clear hK K
            have H5 := hide (And.intro hb45 hb5)
            clear ho5 hb5 hb45 hB5 x0 x1 x2 x3 x4 x5 x6 x7 ltx e3 elt
            repeat (first | ((refine wpText_h rfl rfl ?_; apply Exists.intro; refine ⟨?_, ?_⟩; next => (go_simp; (try (go_bits; go_simp)); (first | done | with_reducible rfl | (rw [if_neg (by omega)]; (try (go_bits; go_simp)); (first | done | with_reducible rfl)) | (rw [if_pos (by omega)]; (try (go_bits; go_simp)); (first | done | with_reducible rfl))))); (try simp only [Act.put, List.setIfInBounds_toArray, List.set_cons_zero, List.set_cons_succ])) | ((refine wpText_p rfl rfl ?_; apply Exists.intro; refine ⟨?_, ?_⟩; next => (intro w'; go_simp; (try (go_bits; go_simp)); (first | done | with_reducible rfl | (rw [if_neg (by omega)]; (try (go_bits; go_simp)); (first | done | with_reducible rfl)) | (rw [if_pos (by omega)]; (try (go_bits; go_simp)); (first | done | with_reducible rfl))))); (try simp only [Act.put, List.setIfInBounds_toArray, List.set_cons_zero, List.set_cons_succ])) | ((refine wpText_y rfl rfl ?_; apply Exists.intro; refine ⟨?_, ?_⟩; next => (intro w' hS; (first | obtain ⟨_, rfl⟩ := hS | skip); go_simp; (try (go_bits; go_simp)); (first | done | with_reducible rfl | (rw [if_neg (by omega)]; (try (go_bits; go_simp)); (first | done | with_reducible rfl)) | (rw [if_pos (by omega)]; (try (go_bits; go_simp)); (first | done | with_reducible rfl))))); (try simp only [Act.put, List.setIfInBounds_toArray, List.set_cons_zero, List.set_cons_succ])) | (refine wpText_skip (by first | exact .inl rfl | exact .inr (.inl rfl) | exact .inr (.inr rfl)) rfl ?_; (try simp only [Act.put, List.setIfInBounds_toArray, List.set_cons_zero, List.set_cons_succ])))
            refine wpText_e rfl rfl (fun K hK => ?_)
            go_wp2
            refine hK _ _ ((HB5.out.alloc _).cell (i := 3) rfl) ?_
            clear hK K
            try simp only [Act.put, List.setIfInBounds_toArray, List.set_cons_zero, List.set_cons_succ]
            refine wpText_nil ?_
            obtain ⟨i0, hi0, hz0, hs0, hb0⟩ := info_parts packet_info
            have HROW := hide (off_keep HR4.out H5.out.1)
            have HSZ := hide (show base ≤ w5.heap.size by have h1 := HBW.out; have h2 := HOW.out; have h3 := HO4.out.size; have h4 := H5.out.1.size; omega)
            go_wp2_with (at_builtin; refine wpList_append_off _ rfl (.tmp 56) (.tmp 59) 39 rfl pktT i0 (.agg zsP.toArray) 8 72 Try.underlying39 hi0 hz0 hs0 hb0 rfl (by decide) base (.slice A n c) n (qs.flatMap Pkt.cells) rfl (off_keep HROW.out ((Only.refl [] w5).alloc _)) (Nat.le_trans HSZ.out ((Only.refl [] w5).alloc _).size) ⟨w5.heap.size, 0, none⟩ 1 1 (p.at A5 c5).cells rfl rfl ?_ (by simp [Pkt.cells, Pkt.at, Value.oneCell']) (by simp only [maxLen]; omega) (by omega) ?_)
            · intro j u hu
              rw [show (⟨w5.heap.size, 0, none⟩ : Addr).add j = ⟨w5.heap.size, j, none⟩ by unfold Addr.add; split <;> simp_all]
              exact ((Blk.newA (c := #[.int .u32 p.src, .int .u32 p.dst, I64 p.proto, I64 p.ttl, I64 p.id, I64 p.off, .bool p.more, .slice A5 p.data.length c5]) rfl)).cell hu
            intro v6 w6 hr6 ho6 hv6
            have hnb := H3.out.2.2.2.2.2
            have hB6 := ho6.blk (HB5.out.alloc (.cells #[.int .u32 p.src, .int .u32 p.dst, I64 p.proto, I64 p.ttl, I64 p.id, I64 p.off, .bool p.more, .slice A5 p.data.length c5] 30)) (fun hh => hnb (mem_own.1 hh))
            have hu6 : ∀ k cs, Blk w5 k u8T cs → w6.heap[k]? = w5.heap[k]? := by
              intro k cs hk
              have h1 := off_ne_blk HROW.out hk (by decide)
              exact (ho6.block k (by have := hk.lt; simp; omega) (fun hh => h1 (mem_own.1 hh))).trans (Below.heap_alloc w5 _ k hk.lt)
            have hp6 := ((HP4.out.only H5.out.1).sameOn hu6).snoc p (B := A5) (d := c5) (H5.out.2.sameOn hu6)
            have hS6 : Only (eb2 a :: (Value.slice A n c).ownBlock.toList) w3 w6 := (((HO4.out.mono (by simp)).trans (H5.out.1.mono (by simp))).trans (((Only.refl [] w5).alloc (.cells #[.int .u32 p.src, .int .u32 p.dst, I64 p.proto, I64 p.ttl, I64 p.id, I64 p.off, .bool p.more, .slice A5 p.data.length c5] 30)).mono (by simp))).trans (ho6.mono (fun k hk _ => List.mem_cons_of_mem _ hk))
            have hn6 := off_ne_blk hr6 hB6 (by decide)
            have hv6' : v6.ownBlock = (Value.slice A n c).ownBlock ∨ ∀ k, v6.ownBlock = some k → w3.heap.size ≤ k := hv6.imp id fun hh k hk => by
              have h1 : w5.heap.size + 1 ≤ k := hh k hk
              have h2 := HO4.out.size
              have h3 := H5.out.1.size
              omega
            have hfl : (qs ++ [p.at A5 c5]).flatMap Pkt.cells = qs.flatMap Pkt.cells ++ (p.at A5 c5).cells := by simp
            rw [← hfl] at hr6
            obtain ⟨A6, c6, rfl⟩ := off_shape hr6
            have f63 := hB6.frozen 3
            have e63 := hB6.cell (i := 3) rfl
            have lt6 := hB6.lt
            have H6 := hide (show _ ∧ _ ∧ _ ∧ _ ∧ _ ∧ _ from ⟨hB6, hp6, hS6, hn6, hv6', hr6⟩)
            clear hB6 hp6 hS6 hn6 hv6' hv6 hr6 hfl ho6 hnb hu6
            go_wp2
            refine NoX.normal ?_
            go_wp2
            go_ret3
            rw [hR.out]
            have hsub : subE l a p now = ⟨a, (inE l a).hw, (inE l a).ex, (inE l a).si, (inE l a).wt ++ [p]⟩ := by
              have h0 := HN.out
              unfold subE cutP
              rw [show (inE l a).wt.isEmpty = false by have := HN.out; cases hw : (inE l a).wt with | nil => rw [hw] at this; simp at this; omega | cons _ _ => rfl]
              rw [if_neg (show ¬ 4 < ((inE l a).wt ++ [p]).length by rw [List.length_append, ← h0]; simp; try omega)]
              rfl
            rw [hsub]
            have hxa := inE_a l a
            have hset : Only [eb2 a] w6 (w6.setCell ⟨eb2 a, 3, none⟩ (.slice A6 (n + 1) c6)) := (Only.refl _ _).set (p := ⟨eb2 a, 3, none⟩) (.inl (by simp)) _
            have hS7 := H6.out.2.2.1.trans (hset.mono (fun k hk _ => List.mem_cons.2 (.inl (by simpa using hk))))
            have hput := H3.out.1.put (y := ⟨a, (inE l a).hw, (inE l a).ex, (inE l a).si, (inE l a).wt ++ [p]⟩) hxm hxa.symm (v' := (.slice A6 (n + 1) c6)) (w' := w6.setCell ⟨eb2 a, 3, none⟩ (.slice A6 (n + 1) c6)) (by rw [hxa, ← HVV.out]; exact hS7)
              (by
                rw [hxa]
                refine ⟨H6.out.1.set 3 _, qs ++ [p.at A5 c5], ?_, H6.out.2.1.sameOn (fun k cs hk => hset.block k hk.lt (by simpa using hk.ne H6.out.1 (by decide)))⟩
                have h1 := off_set H6.out.2.2.2.2.2 (p := ⟨eb2 a, 3, none⟩) H6.out.2.2.2.1 (.slice A6 (n + 1) c6)
                simpa [← HN.out] using h1)
              (by rw [hxa, ← HVV.out]; exact H6.out.2.2.2.2.1)
            exact ⟨_, _, by rw [show (inE l a).wt.isEmpty = false by have := HN.out; cases hw : (inE l a).wt with | nil => rw [hw] at this; simp at this; omega | cons _ _ => rfl]; rfl, hput, HF.out.trans (H3.out.1.frame hS7 (fun k hk _ => .inr (.inr ⟨_, hxm, by rw [hxa, ← HVV.out]; exact (List.mem_cons.1 hk).imp id mem_own.1⟩)))⟩
      · have hR := hide (subL_known hv ht hk)
        have hk' : (knownL l a now != 0) = true := by simpa using hk
        clear hv ht hk
        go_enter Try.func42, Try.ntmps42
        go_wp2_with fail
        refine (Valid_ok p _ HSM.out).mono ?_
        rintro e w1 ⟨rfl, ho1⟩
        rw [HV.out]
        have H1 := hide (show _ ∧ _ from ⟨Only.trans H0.out.1 ho1, H0.out.2.2.only ho1⟩)
        clear ho1 H0
        go_wp2_with fail
        refine (time_ok q life clock now _ _ H1.out.2.me).mono ?_
        rintro e w1x ⟨rfl, rfl⟩
        rw [HT.out]
        have c1 := H1.out.2.me.frozen 1
        have d1 := H1.out.2.me.cell (i := 1) rfl
        have ltq := H1.out.2.me.lt
        go_wp2_with fail
        refine (known_ok base q b m life now a now l eb vb _ (H1.out.2.clockTo now) HAA.out).mono ?_
        rintro e w2 ⟨rfl, rfl⟩
        go_wp2
        go_ret3
        rw [hR.out]
        exact ⟨eb, vb, rfl, (H1.out.2.clockTo now).more (by omega), (OnlyM.of (OnlyT.of_nil H1.out.1)).trans (H1.out.2.frame (S := [q]) ((Only.refl _ _).set (p := ⟨q, 1, none⟩) (.inl (by simp)) _) (by simp))⟩
    · have hR := hide (subL_time (l := l) (a := a) hv ht)
      have ht' : (timeC now clock != 0) = true := by simpa using ht
      clear hv ht
      go_enter Try.func42, Try.ntmps42
      go_wp2_with fail
      refine (Valid_ok p _ HSM.out).mono ?_
      rintro e w1 ⟨rfl, ho1⟩
      rw [HV.out]
      have H1 := hide (show _ ∧ _ from ⟨Only.trans H0.out.1 ho1, H0.out.2.2.only ho1⟩)
      clear ho1 H0
      go_wp2_with fail
      refine (time_ok q life clock now _ _ H1.out.2.me).mono ?_
      rintro e w1x ⟨rfl, rfl⟩
      go_wp2
      go_ret3
      rw [hR.out]
      exact ⟨eb, vb, rfl, H1.out.2.more (by omega), OnlyM.of (OnlyT.of_nil H1.out.1)⟩
  · have hR := hide (subL_bad (l := l) (a := a) (now := now) (clock := clock) hv)
    have hv' : (p.valid != 0) = true := by simpa using hv
    clear hv
    go_enter Try.func42, Try.ntmps42
    go_wp2_with fail
    refine (Valid_ok p _ HSM.out).mono ?_
    rintro e w1 ⟨rfl, ho1⟩
    have H1 := hide (show _ ∧ _ from ⟨Only.trans H0.out.1 ho1, H0.out.2.2.only ho1⟩)
    clear ho1 H0
    go_wp2
    go_ret3
    rw [hR.out]
    exact ⟨eb, vb, rfl, H1.out.2.more (by omega), OnlyM.of (OnlyT.of_nil H1.out.1)⟩

end Go.Proofs.Ytlnejlhdkmneeaa
