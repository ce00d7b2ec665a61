/- The reference's resolver: Submit. -/
import Derived.Test.YtlnejlhdkmneeaaResG
import Derived.Test.YtlnejlhdkmneeaaRowsG
import Derived.Test.YtlnejlhdkmneeaaSched
import Derived.Deep.DeepCutAuto
import Derived.Deep.CutBlock
namespace Go.Proofs.Ytlnejlhdkmneeaa
open Go.RowKit

def RSubmitS (base y : Nat) (life : Int) (r : List Ent × Int × Int × Bool × Int) (w : World) (e : Ending) (w' : World) : Prop :=
  ∃ zs va, e = .returned (.tuple #[.int .u64 r.2.2.1, .bool r.2.2.2.1, I64 r.2.2.2.2]) ∧ RResAt base y life r.2.1 r.1 zs va w' ∧ OnlyT rresTs base w w'

theorem one_cells (q : Pkt) : ∀ u ∈ q.cells, u.oneCell' = true := fun u hu => pk_one [q] u (by simpa using hu)

/-- Behind the question whether somebody waits already. -/
def RAskS (base g o cap n2 k : Nat) (x : Ent) (v : Value) (now : Int) (zs2 : List (Ent × Value)) (w3 wx : World) : Prop :=
  Only [g] w3 wx ∧ ∃ cs, Blk wx g rentT cs ∧ offRow wx base rentT 5 (.slice (some ⟨g, o, none⟩) n2 cap) n2 ((zs2.set k (⟨x.a, x.hw, x.ex, if x.wt.isEmpty then now else x.si, x.wt⟩, v)).flatMap rcl)

set_option maxRecDepth 100000 in
set_option maxHeartbeats 16000000 in
theorem rsubmit_ok (base y : Nat) (life clock a now : Int) (p : Pkt) (l : List Ent) (zs : List (Ent × Value)) (va : Value) (w : World) (h : RResAt base y life clock l zs va w) (hbw : base ≤ w.heap.size)
    (hl : (getE l a).isSome = true ∨ l.length ≤ 200) (hm : l.length ≤ 1000000) (hw4 : (inE l a).wt.length ≤ 4) (hA : NumsIn w .u8 p.A p.data) (hsz : p.data.length ≤ 1000000) (hA0 : p.A = none → p.data.length = 0 ∧ p.cap = 0)
    (hAb : ∀ g o s, p.A = some ⟨g, o, s⟩ → p.data ≠ [] → g < base) :
    Calls Try.prog 43 #[.pointer (some ⟨y, 0, none⟩), .int .u32 a, p.V, I64 now] w fun e w' => RSubmitS base y life (subL l a p now clock) w e w' := by
  have hO : Only [] w (w.alloc (.cells #[.int .u32 p.src, .int .u32 p.dst, I64 p.proto, I64 p.ttl, I64 p.id, I64 p.off, .bool p.more, .slice p.A p.data.length p.cap] 45)) := (Only.refl [] w).alloc _
  have hX : Blk (w.alloc (.cells #[.int .u32 p.src, .int .u32 p.dst, I64 p.proto, I64 p.ttl, I64 p.id, I64 p.off, .bool p.more, .slice p.A p.data.length p.cap] 45)) w.heap.size 45 p.cells := Blk.newA rfl
  have hsm : p.data.length ≤ maxLen := by simp only [maxLen]; omega
  have H0 := hide (show _ ∧ _ ∧ _ from ⟨hO, hX, h.only hO⟩)
  have HSM := hide hsm
  have HNA := hide hA
  have HA0 := hide hA0
  have HBW := hide hbw
  have HAb := hide hAb
  have HL := hide hl
  have HW4 := hide hw4
  have HM := hide hm
  show Calls Try.prog 43 #[.pointer (some ⟨y, 0, none⟩), .int .u32 a, .agg #[.int .u32 p.src, .int .u32 p.dst, I64 p.proto, I64 p.ttl, I64 p.id, I64 p.off, .bool p.more, .slice p.A p.data.length p.cap], I64 now] w _
  clear hO hX h hsm hA hA0 hbw hl hw4 hm hAb
  by_cases hv : p.valid = 0
  · have HV := hide hv
    by_cases htk : tickB now = true
    · by_cases hlt : now < clock
      · have ht30 := timeC_30 htk hlt
        have hR := hide (subL_time (l := l) (a := a) (now := now) (clock := clock) hv (by rw [ht30]; decide))
        rw [ht30] at hR
        have HTK := hide htk
        clear hv htk ht30
        go_enter Try.func43, Try.ntmps43
        go_wp2_with fail
        refine (refValid_ok p _ HSM.out).mono ?_
        rintro e w1 ⟨rfl, ho1⟩
        rw [HV.out]
        have H1 := hide (show _ ∧ _ from ⟨Only.trans H0.out.1 ho1, H0.out.2.2.only ho1⟩)
        have d1 := H1.out.2.me.cell (i := 2) rfl
        have ltq := H1.out.2.me.lt
        clear ho1 H0
        go_wp2_with fail
        refine (inRange_ok now _).mono ?_
        rintro e w1x ⟨rfl, rfl⟩
        rw [HTK.out]
        go_wp2
        go_ret3
        rw [hR.out]
        exact ⟨zs, va, rfl, H1.out.2, .of_nil H1.out.1⟩
      · have ht := timeC_0 htk hlt
        have HTK := hide htk
        by_cases hk : knownL l a now = 0
        · have HK := hide hk
          have hR := hide (subL_wait hv ht hk)
          clear hv ht hk htk
          go_enter Try.func43, Try.ntmps43
          go_wp2_with fail
          refine (refValid_ok p _ HSM.out).mono ?_
          rintro e w1 ⟨rfl, ho1⟩
          rw [HV.out]
          have H1 := hide (show _ ∧ _ ∧ _ from ⟨Only.trans H0.out.1 ho1, ho1.blk H0.out.2.1 (by simp), H0.out.2.2.only ho1⟩)
          have d1 := H1.out.2.2.me.cell (i := 2) rfl
          have c1 := H1.out.2.2.me.frozen 2
          have ltq := H1.out.2.2.me.lt
          clear ho1 H0
          go_wp2_with fail
          refine (inRange_ok now _).mono ?_
          rintro e w1x ⟨rfl, rfl⟩
          rw [HTK.out]
          go_wp2_with fail
          refine (rknown_ok base y life now a now l zs va _ _ rfl HM.out (H1.out.2.2.clockTo now)).mono ?_
          rintro e w2 ⟨rfl, rfl⟩
          rw [HK.out]
          go_wp2_with fail
          refine (rentry_ok base y life now a l zs va _ _ rfl HM.out (H1.out.2.2.clockTo now) (by have := HBW.out; have := H1.out.1.size; simp [World.setCell]; omega) HL.out).mono ?_
          rintro e w3 ⟨k, zs2, va2, rfl, h2, hx, ho2, hv2⟩
          have hny := off_ne_blk H1.out.2.2.row H1.out.2.1 (by decide)
          have hX2 : Blk (w1x.setCell ⟨y, 2, none⟩ (I64 now)) w.heap.size rpktT p.cells := H1.out.2.1.far (by simpa using H1.out.2.1.ne H1.out.2.2.me (by decide)) _
          have hX3 : Blk w3 w.heap.size rpktT p.cells := ho2.blk hX2 (fun hh => by
            rcases List.mem_cons.1 hh with h5 | h5
            · exact H1.out.2.1.ne H1.out.2.2.me (by decide) h5
            · exact hny (mem_own.1 h5))
          obtain ⟨v, hz⟩ := h2.get hx
          obtain ⟨n2, hn2⟩ : ∃ n, n = (entL l a).length := ⟨_, rfl⟩
          have hkn : k < n2 := by rw [hn2]; exact (List.getElem?_eq_some_iff.1 hx).1
          have hr2 := h2.row
          rw [← hn2] at hr2
          obtain ⟨g, o, cap, cs, rfl, hB, hcl, htk⟩ := off_blk hr2 (by omega)
          obtain ⟨g', o', hgo, hc⟩ := h2.cells rfl hz
          injection hgo with hgo
          injection hgo with hg ho'
          subst hg ho'
          obtain ⟨qs, hq1, hq2⟩ := h2.wts (inE l a, v) (List.mem_of_getElem? hz)
          obtain ⟨nw, hnw⟩ : ∃ n, n = (inE l a).wt.length := ⟨_, rfl⟩
          have hq1' : offRow w3 base rpktT 8 v nw (qs.flatMap Pkt.cells) := by rw [hnw]; exact hq1
          obtain ⟨Av, cv, rfl⟩ := off_shape hq1'
          have q1 := h2.me.cell (i := 1) rfl
          have q2 := h2.me.lt
          have e3 := hc 3 _ rfl
          have hnw4 : nw ≤ 4 := by rw [hnw]; exact HW4.out
          have HF := hide (show OnlyT rresTs base w w3 from (OnlyT.of_nil H1.out.1).trans ((H1.out.2.2.frame (S := [y]) ((Only.refl _ _).set (p := ⟨y, 2, none⟩) (.inl (by simp)) _) (by simp)).trans ((H1.out.2.2.clockTo now).frame ho2 (fun i hi _ => (List.mem_cons.1 hi).imp id mem_own.1))))
          have HC := hide hc
          have H2 := hide (show _ ∧ _ ∧ _ ∧ _ ∧ _ ∧ _ ∧ _ ∧ _ from ⟨h2, hB, hz, hx, hr2, hq1', hq2, hX3⟩)
          have HN2 := hide hn2
          have HNW := hide hnw
          have HCL := hide hcl
          clear h2 hB hx ho2 hr2 hz hc hn2 hcl htk c1 d1 ltq hq1 hq1' hq2 hX2 hX3 hny hv2 hnw
          obtain ⟨ask, hask⟩ : ∃ b : Bool, b = ((nw : Int) == 0) := ⟨_, rfl⟩
          have hask' : ((nw : Int) == 0) = ask := hask.symm
          have HASK := hide hask
          clear hask
          have e4 := HC.out 4 _ rfl
          have f4 := H2.out.2.1.frozen (o + k * 5 + 4)
          go_upto_if 57 with (fail)
          go_cut [14] (fun s wx => s = .bool ask ∧ RAskS base g o cap n2 k (inE l a) (.slice Av nw cv) now zs2 w3 wx)
          case first =>
            by_cases hn0 : nw = 0
            · obtain rfl : ask = true := by rw [HASK.out]; simp [hn0]
              have HN0 := hide hn0
              clear hask' hn0
              go_wp2
              go_meet
              refine ⟨rfl, (Only.refl [g] w3).set (p := ⟨g, o + k * 5 + 4, none⟩) (.inl (by simp)) _, _, H2.out.2.1.set _ _, ?_⟩
              have h5 := off_setIn H2.out.2.2.2.2.1 rfl (p := k * 5 + 4) (by omega) (I64 now)
              have hem : (inE l a).wt.isEmpty = true := by rw [List.isEmpty_iff]; exact List.eq_nil_of_length_eq_zero (by rw [← HNW.out]; exact HN0.out)
              rw [rcl_set zs2 k _ H2.out.2.2.1 (⟨(inE l a).a, (inE l a).hw, (inE l a).ex, now, (inE l a).wt⟩, .slice Av nw cv) 4 (I64 now) rfl (by decide), ← Nat.add_assoc] at h5
              rw [hem]
              exact h5
            · obtain rfl : ask = false := by rw [HASK.out]; simp [hn0]
              have HN0 := hide hn0
              clear hask' hn0
              go_wp2
              go_meet
              have hem : (inE l a).wt.isEmpty = false := by
                cases hw : (inE l a).wt with
                | nil => exact absurd (by rw [HNW.out, hw]; rfl) HN0.out
                | cons _ _ => rfl
              refine ⟨rfl, Only.refl _ _, _, H2.out.2.1, ?_⟩
              rw [hem]
              have h6 : zs2.set k (⟨(inE l a).a, (inE l a).hw, (inE l a).ex, (inE l a).si, (inE l a).wt⟩, .slice Av nw cv) = zs2 := by
                apply List.ext_getElem?
                intro i
                rw [List.getElem?_set]
                split
                · rename_i h; subst h; rw [if_pos (List.getElem?_eq_some_iff.1 H2.out.2.2.1).1]; exact H2.out.2.2.1.symm
                · rfl
              exact h6.symm ▸ H2.out.2.2.2.2.1
          case rest =>
            obtain ⟨rfl, hO4, cs4, hB4, hr4⟩ := hcut
            have hX4 : Blk wc w.heap.size rpktT p.cells := hO4.blk H2.out.2.2.2.2.2.2.2 (by simpa using H2.out.2.2.2.2.2.2.2.ne H2.out.2.1 (by decide))
            have HNA4 := hide (show NumsIn wc .u8 p.A p.data by
              intro j u hu
              obtain ⟨b0, o0, e0, hc0⟩ := HNA.out j u hu
              have hlt := HAb.out _ _ _ e0 (ne_of_get hu)
              have hlw : b0 < w.heap.size := World.block_lt_of_cell? _ _ hc0
              refine ⟨b0, o0, e0, ?_⟩
              rw [← hc0]
              refine World.cell?_of_block ((hO4.block b0 (by have := HF.out.size; omega) ?_).trans (HF.out.block b0 hlw (.inl hlt)))
              have := (off_ge H2.out.2.2.2.2.1 g rfl).1
              simp; omega)
            have x0 := hX4.cell (i := 0) rfl
            have x1 := hX4.cell (i := 1) rfl
            have x2 := hX4.cell (i := 2) rfl
            have x3 := hX4.cell (i := 3) rfl
            have x4 := hX4.cell (i := 4) rfl
            have x5 := hX4.cell (i := 5) rfl
            have x6 := hX4.cell (i := 6) rfl
            have x7 := hX4.cell (i := 7) rfl
            have ltx := hX4.lt
            have H4 := hide (show _ ∧ _ ∧ _ from ⟨hO4, hB4, hr4⟩)
            clear hO4 hB4 hr4 hX4 e3 e4 f4
            have hO2 : Only [] wc ((wc.alloc (.cells #[.int .u32 p.src, .int .u32 p.dst, I64 p.proto, I64 p.ttl, I64 p.id, I64 p.off, .bool p.more, .slice p.A p.data.length p.cap] 45)).alloc (.cells #[] 5)) := ((Only.refl [] wc).alloc _).alloc _
            have hB2 : Blk ((wc.alloc (.cells #[.int .u32 p.src, .int .u32 p.dst, I64 p.proto, I64 p.ttl, I64 p.id, I64 p.off, .bool p.more, .slice p.A p.data.length p.cap] 45)).alloc (.cells #[] 5)) wc.heap.size rpktT [.int .u32 p.src, .int .u32 p.dst, I64 p.proto, I64 p.ttl, I64 p.id, I64 p.off, .bool p.more, .slice p.A p.data.length p.cap] := (Blk.newA rfl).alloc _
            have hB3 : Blk ((wc.alloc (.cells #[.int .u32 p.src, .int .u32 p.dst, I64 p.proto, I64 p.ttl, I64 p.id, I64 p.off, .bool p.more, .slice p.A p.data.length p.cap] 45)).alloc (.cells #[] 5)) (wc.heap.size + 1) 5 (bcells []) := Blk.newA (by simp)
            obtain ⟨A', c', W5, hr, k1, k2, k3, hcc⟩ := append_full ((wc.alloc (.cells #[.int .u32 p.src, .int .u32 p.dst, I64 p.proto, I64 p.ttl, I64 p.id, I64 p.off, .bool p.more, .slice p.A p.data.length p.cap] 45)).alloc (.cells #[] 5)) (wc.heap.size + 1) 0 5 [] hB3 rfl p.A p.data p.data.length p.cap rfl (HNA4.out.only hO2) (by omega) (fun h => (HA0.out h).1)
            rw [Nat.zero_add] at hr
            have hbb : BytesBlk W5 (some A') p.data := by
              rcases Nat.eq_zero_or_pos p.data.length with h0 | h0
              · exact .inl (List.length_eq_zero_iff.1 h0)
              · obtain ⟨g, rest, h4, h5, _⟩ := k3 h0
                exact .inr ⟨g, rest, by rw [h4], by simpa using h5⟩
            have hb5 := k1.blk hB2 (by simp)
            have HR := hide hr
            have f0 := hb5.cell (i := 0) rfl
            have f1 := hb5.cell (i := 1) rfl
            have f2 := hb5.cell (i := 2) rfl
            have f3 := hb5.cell (i := 3) rfl
            have f4 := hb5.cell (i := 4) rfl
            have f5 := hb5.cell (i := 5) rfl
            have f6 := hb5.cell (i := 6) rfl
            have f7 := hb5.cell (i := 7) rfl
            have z7 := hb5.frozen 7
            have lt5 := hb5.lt
            have HO5 := hide (Only.trans hO2 k1)
            have HB5 := hide (And.intro hb5 hbb)
            clear hr k1 k2 k3 hcc hbb hb5 hO2 hB2 hB3
            obtain ⟨W6, hW6⟩ : ∃ W, W = W5.setCell ⟨wc.heap.size, 7, none⟩ (.slice (some A') p.data.length c') := ⟨_, rfl⟩
            go_wp2_with (at_builtin; refine wpList_append_eq rfl (.tmp 63) (.tmp 65) 28 rfl _ _ _ rfl rfl HR.out ?_)
            rw [← hW6]
            have hO56 : Only [wc.heap.size] W5 W6 := by rw [hW6]; exact (Only.refl _ _).set (p := ⟨wc.heap.size, 7, none⟩) (.inl (by simp)) _
            have hO6 : Only [] wc W6 := HO5.out.trans' hO56 (by intro i hi hl; simp at hi; omega)
            have hB6 : Blk W6 wc.heap.size rpktT (p.at (some A') c').cells := by rw [hW6]; exact HB5.out.1.set 7 _
            have hbb6 : BytesBlk W6 (some A') p.data := HB5.out.2.sameOn (fun j cs' hj => hO56.block j hj.lt (by simpa using hj.ne HB5.out.1 (by decide)))
            have h3row : offRow wc base rpktT 8 (.slice Av nw cv) nw (qs.flatMap Pkt.cells) := off_only H2.out.2.2.2.2.2.1 H4.out.1 (fun j hj => by
              obtain ⟨cs', h3⟩ := offT H2.out.2.2.2.2.2.1 hj
              simpa using h3.ne H2.out.2.1 (by decide))
            have HROW := hide (off_keep h3row hO6)
            have hg6 : ∀ j v, (rcl (⟨(inE l a).a, (inE l a).hw, (inE l a).ex, if (inE l a).wt.isEmpty then now else (inE l a).si, (inE l a).wt⟩, .slice Av nw cv))[j]? = some v → wc.cell? ⟨g, o + k * 5 + j, none⟩ = some v := fun j v hv => by
              have h9 := off_cells H4.out.2.2 rfl (k * 5 + j) v (rcl_at _ k _ (by rw [List.getElem?_set_self (List.getElem?_eq_some_iff.1 H2.out.2.2.1).1]) j v hv)
              rwa [← Nat.add_assoc] at h9
            have hg3 := hg6 3 _ rfl
            have hgl : g < wc.heap.size := H4.out.2.1.lt
            have HG3 := hide (show ∀ W, Only [] W6 W → W.cell? ⟨g, o + k * 5 + 3, none⟩ = some (.slice Av nw cv) from fun W hW => by
              rw [World.cell?_of_block ((hW.block g (Nat.lt_of_lt_of_le hgl hO6.size) (by simp)).trans (hO6.block g hgl (by simp)))]; exact hg3)
            have H6 := hide (show _ ∧ _ ∧ _ from ⟨hO6, hB6, hbb6⟩)
            clear hO56 hO6 hB6 hbb6 h3row hg6 hg3 hgl f0 f1 f2 f3 f4 f5 f6 f7 z7 lt5 x0 x1 x2 x3 x4 x5 x6 x7 ltx hW6 HR
            go_cut [16] (fun s wx => offRow wx W6.heap.size rpktT 8 s (nw + 1) (qs.flatMap Pkt.cells ++ (p.at (some A') c').cells) ∧ Only [] W6 wx)
            case first =>
              have HS := hide (show ∀ W : World, Only [] W6 W → (fun w' => w'.cell? ⟨g, o + k * 5 + 3, none⟩ = some (.slice Av nw cv) ∧ w'.cell? ⟨wc.heap.size, 0, none⟩ = some (.int .u32 p.src) ∧ w'.cell? ⟨wc.heap.size, 1, none⟩ = some (.int .u32 p.dst) ∧ w'.cell? ⟨wc.heap.size, 2, none⟩ = some (I64 p.proto) ∧ w'.cell? ⟨wc.heap.size, 3, none⟩ = some (I64 p.ttl) ∧ w'.cell? ⟨wc.heap.size, 4, none⟩ = some (I64 p.id) ∧ w'.cell? ⟨wc.heap.size, 5, none⟩ = some (I64 p.off) ∧ w'.cell? ⟨wc.heap.size, 6, none⟩ = some (.bool p.more) ∧ w'.cell? ⟨wc.heap.size, 7, none⟩ = some (.slice (some A') p.data.length c')) W from fun W hW => ⟨HG3.out W hW, (hW.blk H6.out.2.1 (by simp)).cell (i := 0) rfl, (hW.blk H6.out.2.1 (by simp)).cell (i := 1) rfl, (hW.blk H6.out.2.1 (by simp)).cell (i := 2) rfl, (hW.blk H6.out.2.1 (by simp)).cell (i := 3) rfl, (hW.blk H6.out.2.1 (by simp)).cell (i := 4) rfl, (hW.blk H6.out.2.1 (by simp)).cell (i := 5) rfl, (hW.blk H6.out.2.1 (by simp)).cell (i := 6) rfl, (hW.blk H6.out.2.1 (by simp)).cell (i := 7) rfl⟩)
              have HR0 := hide (RowsG.only (RowsG.nil rpktT 8 W6) (Only.refl [] W6).drew)
              obtain ⟨i0, hi0, hz0, hs0, hb0⟩ := info_parts refpacket_info
              refine wp_region_sch 10 [0, 5, 7, 8] (fun w' => w'.cell? ⟨g, o + k * 5 + 3, none⟩ = some (.slice Av nw cv) ∧ w'.cell? ⟨wc.heap.size, 0, none⟩ = some (.int .u32 p.src) ∧ w'.cell? ⟨wc.heap.size, 1, none⟩ = some (.int .u32 p.dst) ∧ w'.cell? ⟨wc.heap.size, 2, none⟩ = some (I64 p.proto) ∧ w'.cell? ⟨wc.heap.size, 3, none⟩ = some (I64 p.ttl) ∧ w'.cell? ⟨wc.heap.size, 4, none⟩ = some (I64 p.id) ∧ w'.cell? ⟨wc.heap.size, 5, none⟩ = some (I64 p.off) ∧ w'.cell? ⟨wc.heap.size, 6, none⟩ = some (.bool p.more) ∧ w'.cell? ⟨wc.heap.size, 7, none⟩ = some (.slice (some A') p.data.length c')) (by kernel_rfl) (by kernel_rfl) (HS.out _ HR0.out.1) ?_
              repeat (first | ((refine sch_y rfl rfl rfl rfl ?_; apply Exists.intro; refine ⟨?_, ?_⟩; next => (intro w' hS; (first | obtain ⟨_, rfl⟩ := hS | skip); go_simp; (try (go_bits; go_simp)); (first | done | with_reducible rfl | (rw [if_neg (by omega)]; (try (go_bits; go_simp)); (first | done | with_reducible rfl)) | (rw [if_pos (by omega)]; (try (go_bits; go_simp)); (first | done | with_reducible rfl))))); (try simp only [Act.put, List.setIfInBounds_toArray, List.set_cons_zero, List.set_cons_succ])) | ((refine sch_skip rfl rfl rfl rfl ?_); (try simp only [Act.put, List.setIfInBounds_toArray, List.set_cons_zero, List.set_cons_succ])))
              refine sch_e2 rfl rfl rfl rfl rfl rfl ?_ ?_
              · refine ⟨rfl, fun K hK => ?_⟩
                go_wp2
                have HR1 := hide (HR0.out.made' #[] 0 [] (W6.heap.size) (by simp) (rfl) (by rfl) (by decide))
                refine hK _ _ (HS.out _ HR1.out.1) ?_
                clear hK K
                try simp only [Act.put, List.setIfInBounds_toArray, List.set_cons_zero, List.set_cons_succ]
                repeat (first | ((refine sch_y rfl rfl rfl rfl ?_; apply Exists.intro; refine ⟨?_, ?_⟩; next => (intro w' hS; (first | obtain ⟨_, rfl⟩ := hS | skip); go_simp; (try (go_bits; go_simp)); (first | done | with_reducible rfl | (rw [if_neg (by omega)]; (try (go_bits; go_simp)); (first | done | with_reducible rfl)) | (rw [if_pos (by omega)]; (try (go_bits; go_simp)); (first | done | with_reducible rfl))))); (try simp only [Act.put, List.setIfInBounds_toArray, List.set_cons_zero, List.set_cons_succ])) | ((refine sch_skip rfl rfl rfl rfl ?_); (try simp only [Act.put, List.setIfInBounds_toArray, List.set_cons_zero, List.set_cons_succ])))
                refine sch_e2 rfl rfl rfl rfl rfl rfl ?_ ?_
                · refine ⟨rfl, fun K hK => ?_⟩
                  refine wp_appG (.tmp 68) (.tmp 72) 42 rfl rpktT i0 (.agg zsP.toArray) 8 72 Try.underlying42 hi0 hz0 hs0 hb0 rfl (by decide) W6 [] [] _ (.slice (some ⟨W6.heap.size, 0, none⟩) 0 0) (0) ([]) rfl HR1.out rfl base (.slice Av nw cv) nw (qs.flatMap Pkt.cells) rfl (off_keep HROW.out HR1.out.1) (pk_one qs) (by simp only [maxLen]; omega) (by omega) ?_
                  intro v2 y2 hr
                  have HR2 := hide hr
                  clear hr
                  refine hK _ _ (HS.out _ HR2.out.1) ?_
                  clear hK K
                  try simp only [Act.put, List.setIfInBounds_toArray, List.set_cons_zero, List.set_cons_succ]
                  repeat (first | ((refine sch_y rfl rfl rfl rfl ?_; apply Exists.intro; refine ⟨?_, ?_⟩; next => (intro w' hS; (first | obtain ⟨_, rfl⟩ := hS | skip); go_simp; (try (go_bits; go_simp)); (first | done | with_reducible rfl | (rw [if_neg (by omega)]; (try (go_bits; go_simp)); (first | done | with_reducible rfl)) | (rw [if_pos (by omega)]; (try (go_bits; go_simp)); (first | done | with_reducible rfl))))); (try simp only [Act.put, List.setIfInBounds_toArray, List.set_cons_zero, List.set_cons_succ])) | ((refine sch_skip rfl rfl rfl rfl ?_); (try simp only [Act.put, List.setIfInBounds_toArray, List.set_cons_zero, List.set_cons_succ])))
                  refine sch_e1 rfl rfl rfl rfl ?_
                  · refine ⟨rfl, fun K hK => ?_⟩
                    go_wp2
                    have HR3 := hide (HR2.out.made' #[.int .u32 p.src, .int .u32 p.dst, I64 p.proto, I64 p.ttl, I64 p.id, I64 p.off, .bool p.more, .slice (some A') p.data.length c'] 1 (p.at (some A') c').cells (y2.heap.size) (by simp) (rfl) (by rfl) (by decide))
                    refine hK _ _ (HS.out _ HR3.out.1) ?_
                    clear hK K
                    try simp only [Act.put, List.setIfInBounds_toArray, List.set_cons_zero, List.set_cons_succ]
                    repeat (first | ((refine sch_y rfl rfl rfl rfl ?_; apply Exists.intro; refine ⟨?_, ?_⟩; next => (intro w' hS; (first | obtain ⟨_, rfl⟩ := hS | skip); go_simp; (try (go_bits; go_simp)); (first | done | with_reducible rfl | (rw [if_neg (by omega)]; (try (go_bits; go_simp)); (first | done | with_reducible rfl)) | (rw [if_pos (by omega)]; (try (go_bits; go_simp)); (first | done | with_reducible rfl))))); (try simp only [Act.put, List.setIfInBounds_toArray, List.set_cons_zero, List.set_cons_succ])) | ((refine sch_skip rfl rfl rfl rfl ?_); (try simp only [Act.put, List.setIfInBounds_toArray, List.set_cons_zero, List.set_cons_succ])))
                    refine sch_e1 rfl rfl rfl rfl ?_
                    · refine ⟨rfl, fun K hK => ?_⟩
                      refine wp_appG (.tmp 73) (.tmp 75) 42 rfl rpktT i0 (.agg zsP.toArray) 8 72 Try.underlying42 hi0 hz0 hs0 hb0 rfl (by decide) W6 [⟨.slice (some ⟨y2.heap.size, 0, none⟩) 1 1, 1, (p.at (some A') c').cells⟩] [] _ (v2) (0 + nw) ([] ++ (qs.flatMap Pkt.cells)) rfl HR3.out rfl _ (.slice (some ⟨y2.heap.size, 0, none⟩) 1 1) 1 (p.at (some A') c').cells rfl (HR3.out.get 0 rfl) (one_cells _) (by simp only [maxLen]; omega) (by omega) ?_
                      intro v4 y4 hr
                      have HR4 := hide hr
                      clear hr
                      refine hK _ _ (HS.out _ HR4.out.1) ?_
                      clear hK K
                      try simp only [Act.put, List.setIfInBounds_toArray, List.set_cons_zero, List.set_cons_succ]
                      repeat (first | ((refine sch_y rfl rfl rfl rfl ?_; apply Exists.intro; refine ⟨?_, ?_⟩; next => (intro w' hS; (first | obtain ⟨_, rfl⟩ := hS | skip); go_simp; (try (go_bits; go_simp)); (first | done | with_reducible rfl | (rw [if_neg (by omega)]; (try (go_bits; go_simp)); (first | done | with_reducible rfl)) | (rw [if_pos (by omega)]; (try (go_bits; go_simp)); (first | done | with_reducible rfl))))); (try simp only [Act.put, List.setIfInBounds_toArray, List.set_cons_zero, List.set_cons_succ])) | ((refine sch_skip rfl rfl rfl rfl ?_); (try simp only [Act.put, List.setIfInBounds_toArray, List.set_cons_zero, List.set_cons_succ])))
                      refine sch_nil ?_
                      go_wp2_with fail
                      go_meet
                      exact ⟨by simpa using HR4.out.get 1 rfl, HR4.out.1⟩
                · refine ⟨rfl, fun K hK => ?_⟩
                  go_wp2
                  have HR5 := hide (HR1.out.made' #[.int .u32 p.src, .int .u32 p.dst, I64 p.proto, I64 p.ttl, I64 p.id, I64 p.off, .bool p.more, .slice (some A') p.data.length c'] 1 (p.at (some A') c').cells (W6.heap.size + 1) (by simp) (rfl) (by rfl) (by decide))
                  refine hK _ _ (HS.out _ HR5.out.1) ?_
                  clear hK K
                  try simp only [Act.put, List.setIfInBounds_toArray, List.set_cons_zero, List.set_cons_succ]
                  repeat (first | ((refine sch_y rfl rfl rfl rfl ?_; apply Exists.intro; refine ⟨?_, ?_⟩; next => (intro w' hS; (first | obtain ⟨_, rfl⟩ := hS | skip); go_simp; (try (go_bits; go_simp)); (first | done | with_reducible rfl | (rw [if_neg (by omega)]; (try (go_bits; go_simp)); (first | done | with_reducible rfl)) | (rw [if_pos (by omega)]; (try (go_bits; go_simp)); (first | done | with_reducible rfl))))); (try simp only [Act.put, List.setIfInBounds_toArray, List.set_cons_zero, List.set_cons_succ])) | ((refine sch_skip rfl rfl rfl rfl ?_); (try simp only [Act.put, List.setIfInBounds_toArray, List.set_cons_zero, List.set_cons_succ])))
                  refine sch_e1 rfl rfl rfl rfl ?_
                  · refine ⟨rfl, fun K hK => ?_⟩
                    refine wp_appG (.tmp 68) (.tmp 72) 42 rfl rpktT i0 (.agg zsP.toArray) 8 72 Try.underlying42 hi0 hz0 hs0 hb0 rfl (by decide) W6 [⟨.slice (some ⟨W6.heap.size + 1, 0, none⟩) 1 1, 1, (p.at (some A') c').cells⟩] [] _ (.slice (some ⟨W6.heap.size, 0, none⟩) 0 0) (0) ([]) rfl HR5.out rfl base (.slice Av nw cv) nw (qs.flatMap Pkt.cells) rfl (off_keep HROW.out HR5.out.1) (pk_one qs) (by simp only [maxLen]; omega) (by omega) ?_
                    intro v6 y6 hr
                    have HR6 := hide hr
                    clear hr
                    refine hK _ _ (HS.out _ HR6.out.1) ?_
                    clear hK K
                    try simp only [Act.put, List.setIfInBounds_toArray, List.set_cons_zero, List.set_cons_succ]
                    repeat (first | ((refine sch_y rfl rfl rfl rfl ?_; apply Exists.intro; refine ⟨?_, ?_⟩; next => (intro w' hS; (first | obtain ⟨_, rfl⟩ := hS | skip); go_simp; (try (go_bits; go_simp)); (first | done | with_reducible rfl | (rw [if_neg (by omega)]; (try (go_bits; go_simp)); (first | done | with_reducible rfl)) | (rw [if_pos (by omega)]; (try (go_bits; go_simp)); (first | done | with_reducible rfl))))); (try simp only [Act.put, List.setIfInBounds_toArray, List.set_cons_zero, List.set_cons_succ])) | ((refine sch_skip rfl rfl rfl rfl ?_); (try simp only [Act.put, List.setIfInBounds_toArray, List.set_cons_zero, List.set_cons_succ])))
                    refine sch_e1 rfl rfl rfl rfl ?_
                    · refine ⟨rfl, fun K hK => ?_⟩
                      refine wp_appG (.tmp 73) (.tmp 75) 42 rfl rpktT i0 (.agg zsP.toArray) 8 72 Try.underlying42 hi0 hz0 hs0 hb0 rfl (by decide) W6 [⟨.slice (some ⟨W6.heap.size + 1, 0, none⟩) 1 1, 1, (p.at (some A') c').cells⟩] [] _ (v6) (0 + nw) ([] ++ (qs.flatMap Pkt.cells)) rfl HR6.out rfl _ (.slice (some ⟨W6.heap.size + 1, 0, none⟩) 1 1) 1 (p.at (some A') c').cells rfl (HR6.out.get 0 rfl) (one_cells _) (by simp only [maxLen]; omega) (by omega) ?_
                      intro v7 y7 hr
                      have HR7 := hide hr
                      clear hr
                      refine hK _ _ (HS.out _ HR7.out.1) ?_
                      clear hK K
                      try simp only [Act.put, List.setIfInBounds_toArray, List.set_cons_zero, List.set_cons_succ]
                      repeat (first | ((refine sch_y rfl rfl rfl rfl ?_; apply Exists.intro; refine ⟨?_, ?_⟩; next => (intro w' hS; (first | obtain ⟨_, rfl⟩ := hS | skip); go_simp; (try (go_bits; go_simp)); (first | done | with_reducible rfl | (rw [if_neg (by omega)]; (try (go_bits; go_simp)); (first | done | with_reducible rfl)) | (rw [if_pos (by omega)]; (try (go_bits; go_simp)); (first | done | with_reducible rfl))))); (try simp only [Act.put, List.setIfInBounds_toArray, List.set_cons_zero, List.set_cons_succ])) | ((refine sch_skip rfl rfl rfl rfl ?_); (try simp only [Act.put, List.setIfInBounds_toArray, List.set_cons_zero, List.set_cons_succ])))
                      refine sch_nil ?_
                      go_wp2_with fail
                      go_meet
                      exact ⟨by simpa using HR7.out.get 1 rfl, HR7.out.1⟩
              · refine ⟨rfl, fun K hK => ?_⟩
                go_wp2
                have HR8 := hide (HR0.out.made' #[.int .u32 p.src, .int .u32 p.dst, I64 p.proto, I64 p.ttl, I64 p.id, I64 p.off, .bool p.more, .slice (some A') p.data.length c'] 1 (p.at (some A') c').cells (W6.heap.size) (by simp) (rfl) (by rfl) (by decide))
                refine hK _ _ (HS.out _ HR8.out.1) ?_
                clear hK K
                try simp only [Act.put, List.setIfInBounds_toArray, List.set_cons_zero, List.set_cons_succ]
                repeat (first | ((refine sch_y rfl rfl rfl rfl ?_; apply Exists.intro; refine ⟨?_, ?_⟩; next => (intro w' hS; (first | obtain ⟨_, rfl⟩ := hS | skip); go_simp; (try (go_bits; go_simp)); (first | done | with_reducible rfl | (rw [if_neg (by omega)]; (try (go_bits; go_simp)); (first | done | with_reducible rfl)) | (rw [if_pos (by omega)]; (try (go_bits; go_simp)); (first | done | with_reducible rfl))))); (try simp only [Act.put, List.setIfInBounds_toArray, List.set_cons_zero, List.set_cons_succ])) | ((refine sch_skip rfl rfl rfl rfl ?_); (try simp only [Act.put, List.setIfInBounds_toArray, List.set_cons_zero, List.set_cons_succ])))
                refine sch_e1 rfl rfl rfl rfl ?_
                · refine ⟨rfl, fun K hK => ?_⟩
                  go_wp2
                  have HR9 := hide (HR8.out.made' #[] 0 [] (W6.heap.size + 1) (by simp) (rfl) (by rfl) (by decide))
                  refine hK _ _ (HS.out _ HR9.out.1) ?_
                  clear hK K
                  try simp only [Act.put, List.setIfInBounds_toArray, List.set_cons_zero, List.set_cons_succ]
                  repeat (first | ((refine sch_y rfl rfl rfl rfl ?_; apply Exists.intro; refine ⟨?_, ?_⟩; next => (intro w' hS; (first | obtain ⟨_, rfl⟩ := hS | skip); go_simp; (try (go_bits; go_simp)); (first | done | with_reducible rfl | (rw [if_neg (by omega)]; (try (go_bits; go_simp)); (first | done | with_reducible rfl)) | (rw [if_pos (by omega)]; (try (go_bits; go_simp)); (first | done | with_reducible rfl))))); (try simp only [Act.put, List.setIfInBounds_toArray, List.set_cons_zero, List.set_cons_succ])) | ((refine sch_skip rfl rfl rfl rfl ?_); (try simp only [Act.put, List.setIfInBounds_toArray, List.set_cons_zero, List.set_cons_succ])))
                  refine sch_e1 rfl rfl rfl rfl ?_
                  · refine ⟨rfl, fun K hK => ?_⟩
                    refine wp_appG (.tmp 68) (.tmp 72) 42 rfl rpktT i0 (.agg zsP.toArray) 8 72 Try.underlying42 hi0 hz0 hs0 hb0 rfl (by decide) W6 [] [⟨.slice (some ⟨W6.heap.size, 0, none⟩) 1 1, 1, (p.at (some A') c').cells⟩] _ (.slice (some ⟨W6.heap.size + 1, 0, none⟩) 0 0) (0) ([]) rfl HR9.out rfl base (.slice Av nw cv) nw (qs.flatMap Pkt.cells) rfl (off_keep HROW.out HR9.out.1) (pk_one qs) (by simp only [maxLen]; omega) (by omega) ?_
                    intro v10 y10 hr
                    have HR10 := hide hr
                    clear hr
                    refine hK _ _ (HS.out _ HR10.out.1) ?_
                    clear hK K
                    try simp only [Act.put, List.setIfInBounds_toArray, List.set_cons_zero, List.set_cons_succ]
                    repeat (first | ((refine sch_y rfl rfl rfl rfl ?_; apply Exists.intro; refine ⟨?_, ?_⟩; next => (intro w' hS; (first | obtain ⟨_, rfl⟩ := hS | skip); go_simp; (try (go_bits; go_simp)); (first | done | with_reducible rfl | (rw [if_neg (by omega)]; (try (go_bits; go_simp)); (first | done | with_reducible rfl)) | (rw [if_pos (by omega)]; (try (go_bits; go_simp)); (first | done | with_reducible rfl))))); (try simp only [Act.put, List.setIfInBounds_toArray, List.set_cons_zero, List.set_cons_succ])) | ((refine sch_skip rfl rfl rfl rfl ?_); (try simp only [Act.put, List.setIfInBounds_toArray, List.set_cons_zero, List.set_cons_succ])))
                    refine sch_e1 rfl rfl rfl rfl ?_
                    · refine ⟨rfl, fun K hK => ?_⟩
                      refine wp_appG (.tmp 73) (.tmp 75) 42 rfl rpktT i0 (.agg zsP.toArray) 8 72 Try.underlying42 hi0 hz0 hs0 hb0 rfl (by decide) W6 [] [⟨.slice (some ⟨W6.heap.size, 0, none⟩) 1 1, 1, (p.at (some A') c').cells⟩] _ (v10) (0 + nw) ([] ++ (qs.flatMap Pkt.cells)) rfl HR10.out rfl _ (.slice (some ⟨W6.heap.size, 0, none⟩) 1 1) 1 (p.at (some A') c').cells rfl (HR10.out.get 1 rfl) (one_cells _) (by simp only [maxLen]; omega) (by omega) ?_
                      intro v11 y11 hr
                      have HR11 := hide hr
                      clear hr
                      refine hK _ _ (HS.out _ HR11.out.1) ?_
                      clear hK K
                      try simp only [Act.put, List.setIfInBounds_toArray, List.set_cons_zero, List.set_cons_succ]
                      repeat (first | ((refine sch_y rfl rfl rfl rfl ?_; apply Exists.intro; refine ⟨?_, ?_⟩; next => (intro w' hS; (first | obtain ⟨_, rfl⟩ := hS | skip); go_simp; (try (go_bits; go_simp)); (first | done | with_reducible rfl | (rw [if_neg (by omega)]; (try (go_bits; go_simp)); (first | done | with_reducible rfl)) | (rw [if_pos (by omega)]; (try (go_bits; go_simp)); (first | done | with_reducible rfl))))); (try simp only [Act.put, List.setIfInBounds_toArray, List.set_cons_zero, List.set_cons_succ])) | ((refine sch_skip rfl rfl rfl rfl ?_); (try simp only [Act.put, List.setIfInBounds_toArray, List.set_cons_zero, List.set_cons_succ])))
                      refine sch_nil ?_
                      go_wp2_with fail
                      go_meet
                      exact ⟨by simpa using HR11.out.get 0 rfl, HR11.out.1⟩
            case rest =>
              obtain ⟨hr7, hO7⟩ := hcut
              have hae : (inE l a).wt.isEmpty = ask := by
                rw [HASK.out, HNW.out]
                cases (inE l a).wt with
                | nil => rfl
                | cons _ _ => symm; simp; omega
              obtain ⟨si, hsi⟩ : ∃ si, si = (if (inE l a).wt.isEmpty then now else (inE l a).si) := ⟨_, rfl⟩
              have hB7 := hO7.blk (H6.out.1.blk H4.out.2.1 (by simp)) (by simp)
              have hrow7 := off_keep (off_keep H4.out.2.2 H6.out.1) hO7
              rw [← hsi] at hrow7
              have hO37 : Only [g] w3 wc := H4.out.1.trans ((H6.out.1.trans hO7).mono (by simp))
              have hbs : base ≤ W6.heap.size := by
                have h1 := HBW.out; have h2 := HF.out.size; have h3 := H4.out.1.size; have h4 := H6.out.1.size; omega
              have hr7 := off_base hr7 hbs
              have hp7 := (((H2.out.2.2.2.2.2.2.1.sameOn (w' := wc) (fun j cs' hj => hO37.block j hj.lt (by simpa using hj.ne H2.out.2.1 (by decide)))).snoc p (d := c') (H6.out.2.2.sameOn (fun j cs' hj => hO7.block j hj.lt (by simp)))))
              have f3 := hB7.frozen (o + k * 5 + 3)
              have e3 := off_cells hrow7 rfl (k * 5 + 3) _ (rcl_at _ k _ (by rw [List.getElem?_set_self (List.getElem?_eq_some_iff.1 H2.out.2.2.1).1]) 3 _ rfl)
              rw [← Nat.add_assoc] at e3
              have ltg := hB7.lt
              have HAE := hide hae
              have HSI := hide hsi
              have fin : ∀ (v7 : Value) (wt7 : List Pkt) (qs7 : List Pkt), wt7 = cutP ((inE l a).wt ++ [p]) → offRow wc base rpktT 8 v7 wt7.length (qs7.flatMap Pkt.cells) → PkLie wc wt7 qs7 →
                  ∃ zs va, RResAt base y life now (setE (entL l a) (subE l a p now)) zs va (wc.setCell ⟨g, o + k * 5 + 3, none⟩ v7) ∧ OnlyT rresTs base w (wc.setCell ⟨g, o + k * 5 + 3, none⟩ v7) := by
                intro v7 wt7 qs7 hw7 h8 h9
                have hso : Only [g] wc (wc.setCell ⟨g, o + k * 5 + 3, none⟩ v7) := (Only.refl _ _).set (p := ⟨g, o + k * 5 + 3, none⟩) (.inl (by simp)) _
                have hE : subE l a p now = ⟨a, (inE l a).hw, (inE l a).ex, si, wt7⟩ := by unfold subE; rw [hw7, HSI.out]
                have h10 := off_setIn hrow7 rfl (p := k * 5 + 3) (by omega) v7
                rw [rcl_set _ k _ (by rw [List.getElem?_set_self (List.getElem?_eq_some_iff.1 H2.out.2.2.1).1]) (⟨a, (inE l a).hw, (inE l a).ex, si, wt7⟩, v7) 3 v7 (by show [_, _, _, _, _] = [_, _, _, _, _]; rw [inE_a]) (by decide), ← Nat.add_assoc, List.set_set] at h10
                have hO3 : Only [g] w3 (wc.setCell ⟨g, o + k * 5 + 3, none⟩ v7) := hO37.trans hso
                have hput := H2.out.1.put (y' := ⟨a, (inE l a).hw, (inE l a).ex, si, wt7⟩) (v' := v7) (w' := wc.setCell ⟨g, o + k * 5 + 3, none⟩ v7) H2.out.2.2.1 (inE_a l a).symm (hO3.mono (by simp [Value.ownBlock])) (by rw [← HN2.out]; exact h10)
                  ⟨qs7, off_set h8 (p := ⟨g, o + k * 5 + 3, none⟩) (off_ne_blk h8 hB7 (by decide)) _, h9.sameOn (fun j cs' hj => hso.block j hj.lt (by simpa using hj.ne hB7 (by decide)))⟩
                rw [← hE] at hput
                exact ⟨_, _, hput, HF.out.trans (H2.out.1.frame hO3 (fun i hi _ => by
                  right; simpa [Value.ownBlock, eq_comm] using hi))⟩
              have hfl : (qs ++ [p.at (some A') c']).flatMap Pkt.cells = qs.flatMap Pkt.cells ++ (p.at (some A') c').cells := by simp
              rw [← hfl] at hr7
              clear hrow7 hsi hae hfl hO37 HC HCL HROW HG3 hbs
              by_cases hn4 : nw = 4
              · subst hn4
                obtain ⟨g6, o6, c6, rfl, hr8⟩ := off_tail hr7
                have hc6 : ¬ c6 = 0 := by have := off_cap hr8; omega
                rw [flat_tail] at hr8
                have hlen : (((inE l a).wt ++ [p]).drop 1).length = 4 := by rw [List.length_drop, List.length_append, ← HNW.out]; rfl
                obtain ⟨zs7, va7, hz7, ho7⟩ := fin (.slice (some ⟨g6, o6 + 8, none⟩) 4 c6) (((inE l a).wt ++ [p]).drop 1) _ (by unfold cutP; rw [if_pos (by rw [List.length_append, ← HNW.out]; simp)]) (by rw [hlen]; exact hr8) hp7.tail
                have HZ := hide (And.intro hz7 ho7)
                clear fin hr7 hr8 hp7 hlen hB7 hO7 hz7 ho7
                go_wp2
                go_ret3
                rw [hR.out]
                refine ⟨zs7, va7, ?_, HZ.out.1, HZ.out.2⟩
                show _ = Ending.returned (.tuple #[_, .bool (inE l a).wt.isEmpty, _])
                rw [HAE.out]
                rfl
              · obtain ⟨A6, c6, rfl⟩ := off_shape hr7
                have hlen : ((inE l a).wt ++ [p]).length = nw + 1 := by rw [List.length_append, ← HNW.out]; rfl
                obtain ⟨zs7, va7, hz7, ho7⟩ := fin (.slice A6 (nw + 1) c6) ((inE l a).wt ++ [p]) _ (by unfold cutP; rw [if_neg (by rw [hlen]; omega)]) (by rw [hlen]; exact hr7) hp7
                have HZ := hide (And.intro hz7 ho7)
                clear fin hr7 hp7 hlen hB7 hO7 hz7 ho7
                go_wp2
                go_ret3
                rw [hR.out]
                refine ⟨zs7, va7, ?_, HZ.out.1, HZ.out.2⟩
                show _ = Ending.returned (.tuple #[_, .bool (inE l a).wt.isEmpty, _])
                rw [HAE.out]
                rfl
        · have hR := hide (subL_known hv ht hk)
          have hk' : (knownL l a now != 0) = true := by simpa using hk
          clear hv ht hk htk
          go_enter Try.func43, Try.ntmps43
          go_wp2_with fail
          refine (refValid_ok p _ HSM.out).mono ?_
          rintro e w1 ⟨rfl, ho1⟩
          rw [HV.out]
          have H1 := hide (show _ ∧ _ from ⟨Only.trans H0.out.1 ho1, H0.out.2.2.only ho1⟩)
          have d1 := H1.out.2.me.cell (i := 2) rfl
          have c1 := H1.out.2.me.frozen 2
          have ltq := H1.out.2.me.lt
          clear ho1 H0
          go_wp2_with fail
          refine (inRange_ok now _).mono ?_
          rintro e w1x ⟨rfl, rfl⟩
          rw [HTK.out]
          go_wp2_with fail
          refine (rknown_ok base y life now a now l zs va _ _ rfl HM.out (H1.out.2.clockTo now)).mono ?_
          rintro e w2 ⟨rfl, rfl⟩
          go_wp2
          go_ret3
          rw [hR.out]
          exact ⟨zs, va, rfl, H1.out.2.clockTo now, (OnlyT.of_nil H1.out.1).trans (H1.out.2.frame (S := [y]) ((Only.refl _ _).set (p := ⟨y, 2, none⟩) (.inl (by simp)) _) (by simp))⟩
    · have htk' : tickB now = false := by simpa using htk
      have ht34 := timeC_34 (clock := clock) htk'
      have hR := hide (subL_time (l := l) (a := a) (now := now) (clock := clock) hv (by rw [ht34]; decide))
      rw [ht34] at hR
      have HTK := hide htk'
      clear hv htk htk' ht34
      go_enter Try.func43, Try.ntmps43
      go_wp2_with fail
      refine (refValid_ok p _ HSM.out).mono ?_
      rintro e w1 ⟨rfl, ho1⟩
      rw [HV.out]
      have H1 := hide (show _ ∧ _ from ⟨Only.trans H0.out.1 ho1, H0.out.2.2.only ho1⟩)
      clear ho1 H0
      go_wp2_with fail
      refine (inRange_ok now _).mono ?_
      rintro e w1x ⟨rfl, rfl⟩
      rw [HTK.out]
      go_wp2
      go_ret3
      rw [hR.out]
      exact ⟨zs, va, rfl, H1.out.2, .of_nil H1.out.1⟩
  · have hR := hide (subL_bad (l := l) (a := a) (now := now) (clock := clock) hv)
    have hv' : (p.valid != 0) = true := by simpa using hv
    clear hv
    go_enter Try.func43, Try.ntmps43
    go_wp2_with fail
    refine (refValid_ok p _ HSM.out).mono ?_
    rintro e w1 ⟨rfl, ho1⟩
    have H1 := hide (show _ ∧ _ from ⟨Only.trans H0.out.1 ho1, H0.out.2.2.only ho1⟩)
    clear ho1 H0
    go_wp2
    go_ret3
    rw [hR.out]
    exact ⟨zs, va, rfl, H1.out.2, .of_nil H1.out.1⟩

end Go.Proofs.Ytlnejlhdkmneeaa
