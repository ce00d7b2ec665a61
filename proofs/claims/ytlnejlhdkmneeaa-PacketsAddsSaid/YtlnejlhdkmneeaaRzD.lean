/- The reference's reassembly: Add. -/
import Derived.Test.YtlnejlhdkmneeaaRzC
import Derived.BigFrame
namespace Go.Proofs.Ytlnejlhdkmneeaa
open Go.RowKit

theorem RrAt.offz {base r : Nat} {w w' : World} {last : Int} {l : List RP} {va : Value} (h : RrAt base r w last l va) {k : Nat} {cs : List Value} (hk : Blk w k rpktT cs) (ho : Only [k] w w') : RrAt base r w' last l va :=
  h.only ho (fun j hj hm => by
    obtain rfl := List.mem_singleton.1 hm
    rcases mem_rfoot.1 hj with h1 | h1 | ⟨z, hz, h1⟩
    · exact hk.ne h.me (by decide) h1
    · exact off_ne_blk h.row hk (by decide) h1
    · obtain ⟨t, cs', hb, ht⟩ := (h.cols z hz).kind h1
      rcases ht with rfl | rfl
      · exact absurd rfl (hb.ne hk (by decide))
      · exact absurd rfl (hb.ne hk (by decide)))
theorem NumsIn.far {w w' : World} {A : Option Addr} {l : List Nat} {S : List Nat} (h : NumsIn w .u8 A l) (ho : Only S w w') (hs : ∀ g o s, A = some ⟨g, o, s⟩ → l ≠ [] → g ∉ S) : NumsIn w' .u8 A l := by
  intro k x hx
  obtain ⟨g, o, e, hc⟩ := h k x hx
  refine ⟨g, o, e, ?_⟩
  rw [← hc]
  exact World.cell?_of_block (ho.block g (World.block_lt_of_cell? _ _ hc) (hs _ _ _ e (ne_of_get hx)))
theorem NumsIn.lt {w : World} {A : Option Addr} {l : List Nat} (h : NumsIn w .u8 A l) {g o : Nat} {s : Option Nat} (e : A = some ⟨g, o, s⟩) (hne : l ≠ []) : g < w.heap.size := by
  obtain ⟨g2, o2, e2, hc2⟩ := h 0 (l[0]'(List.length_pos_iff.2 hne)) (List.getElem?_eq_getElem _)
  rw [e] at e2
  injection e2 with e2
  injection e2 with e2
  rw [e2]
  exact World.block_lt_of_cell? _ _ hc2

/-- Behind the growing of the two rows, and on the way. -/
def RPadAt (W0 : World) (D : List Nat) (H : List Bool) (dl m : Nat) (vd vh : Value) (wr : World) : Prop :=
  dl ≤ m ∧ TwoRows W0 m (bcells (D ++ List.replicate (m - dl) 0)) ((H ++ List.replicate (m - dl) false).map Value.bool) vd vh wr
theorem pad_step {D : List Nat} {H : List Bool} {dl m : Nat} (h : dl ≤ m) : bcells (D ++ List.replicate (m - dl) 0) ++ [.int .u8 0] = bcells (D ++ List.replicate (m + 1 - dl) 0) ∧ (H ++ List.replicate (m - dl) false).map Value.bool ++ [.bool false] = (H ++ List.replicate (m + 1 - dl) false).map Value.bool := by
  have e : m + 1 - dl = (m - dl) + 1 := by omega
  rw [e, List.replicate_succ', List.replicate_succ', ← List.append_assoc, ← List.append_assoc, bcells_app (D ++ _), List.map_append (l₁ := H ++ _)]
  exact ⟨rfl, rfl⟩
/-- What stands in the collection's place behind the stores. -/
def rstep (x : RP) (p : Pkt) (vd vh : Value) : RP := ⟨vd, vh, stepC x.c p⟩

set_option maxRecDepth 100000 in
set_option maxHeartbeats 32000000 in
theorem radd_ok (base r : Nat) (last now : Int) (l : List RP) (va : Value) (p : Pkt) (w : World) (h : RrAt base r w last l va) (hbw : base ≤ w.heap.size) (hk : ColsOk (l.map (·.c))) (hf : PFit p) (hll : l.length ≤ 16) (hsz : p.data.length ≤ 1000000)
    (hA : NumsIn w .u8 p.A p.data) (hA0 : p.A = none → p.data.length = 0 ∧ p.cap = 0) (hAb : ∀ g o s, p.A = some ⟨g, o, s⟩ → p.data ≠ [] → g ∉ rfoot r l va) :
    Calls Try.prog 37 #[.pointer (some ⟨r, 0, none⟩), p.V, I64 now] w fun e w' => RAddRes base r w l va (addM last (l.map (·.c)) p now) e w' := by
  obtain ⟨W1, hW1⟩ : ∃ W, W = (w.alloc (.cells p.cells.toArray rpktT)).alloc (.cells zsP.toArray rpktT) := ⟨_, rfl⟩
  have hO : Only [] w W1 := by rw [hW1]; exact ((Only.refl [] w).alloc _).alloc _
  have hX : Blk W1 w.heap.size rpktT p.cells := by rw [hW1]; exact Blk.alloc (Blk.newA (by simp)) _
  have hZ : Blk W1 (w.heap.size + 1) rpktT zsP := by rw [hW1]; exact Blk.newA (by simp)
  have hR := h.keep hO
  have H1 := hide (show _ ∧ _ ∧ _ ∧ _ from ⟨hO, hX, hZ, hR⟩)
  have HW1 := hide (show (w.alloc (.cells #[.int .u32 p.src, .int .u32 p.dst, I64 p.proto, I64 p.ttl, I64 p.id, I64 p.off, .bool p.more, .slice p.A p.data.length p.cap] rpktT)).alloc (.cells #[.int .u32 0, .int .u32 0, I64 0, I64 0, I64 0, I64 0, .bool false, .slice none 0 0] rpktT) = W1 from hW1.symm)
  have HF := hide hf
  have HK := hide hk
  have HBW := hide hbw
  have HLL := hide hll
  have HA := hide (show _ ∧ _ ∧ _ from ⟨hA, hA0, hAb⟩)
  have HH := hide h
  have hb0 := build_rzero
  obtain ⟨f0, f1, f2, f3, f4, f5, f6, f7⟩ := hX.pkt8r
  have ltx := hX.lt
  have hmx : p.data.length ≤ maxLen := by simp only [maxLen]; omega
  have r1 := hR.me.cell (i := 1) rfl
  have z1 := hR.me.frozen 1
  have ltr := hR.me.lt
  clear hO hX hZ hR hf hA hA0 hAb hW1 h hk hbw hll
  show Calls Try.prog 37 #[.pointer (some ⟨r, 0, none⟩), .agg #[.int .u32 p.src, .int .u32 p.dst, I64 p.proto, I64 p.ttl, I64 p.id, I64 p.off, .bool p.more, .slice p.A p.data.length p.cap], I64 now] w _
  go_enter Try.func37, Try.ntmps37
  go_upto_region 1 with (fail)
  rw [HW1.out]
  go_wp2_with fail
  refine (refValid_ok p _ hmx).mono ?_
  rintro e w1 ⟨rfl, ho1⟩
  have HR1 := hide (show _ ∧ _ ∧ _ ∧ _ from ⟨H1.out.1.trans ho1, ho1.blk H1.out.2.1 (by simp), ho1.blk H1.out.2.2.1 (by simp), H1.out.2.2.2.keep ho1⟩)
  clear f0 f1 f2 f3 f4 f5 f6 f7 ltx r1 z1 ltr ho1
  by_cases hv : p.valid = 0
  · by_cases ht : tickB now = true
    · rw [hv]
      have HV := hide hv
      have HT := hide ht
      clear hv ht
      go_wp2_with fail
      refine (inRange_ok now _).mono ?_
      rintro e w2 ⟨rfl, rfl⟩
      rw [HT.out]
      have r1 := HR1.out.2.2.2.me.cell (i := 1) rfl
      have z1 := HR1.out.2.2.2.me.frozen 1
      have ltr := HR1.out.2.2.2.me.lt
      by_cases hlast : now < last
      · have HO : Hid (addM last (l.map (·.c)) p now = ⟨last, l.map (·.c), zeroP, false, 30⟩) := hide (by
          unfold addM
          have ht := HT.out
          unfold tickB at ht
          rw [if_neg (by simp [HV.out] at ht ⊢; omega), if_pos hlast])
        go_wp2_with (refine wpList_store_cells rfl rpktT (.tmp 6) (.tmp 36) rfl (w.heap.size + 1) 0 rfl zsP rfl rpktT zsP HR1.out.2.2.1 (by exact Nat.le_refl _) (by kernel_rfl) (by simp [Value.oneCell']) ?_; intro v1 hw3)
        refine bodyPost_ret (results_cell_tmp2 rfl _ _ _ rfl (load_rpkt (p := zeroP) (Blk.to hw3.1 (by rfl)))) rfl ?_
        refine radd_none (HR1.out.2.2.2.offz HR1.out.2.2.1 hw3.2.1) (HR1.out.1.trans' hw3.2.1 (by intro i hi hlt; simp at hi; omega)) HO.out
      · obtain ⟨W2, hW2⟩ : ∃ W, W = w2.setCell ⟨r, 1, none⟩ (I64 now) := ⟨_, rfl⟩
        have o2 : Only [r] w2 W2 := by rw [hW2]; exact (Only.refl _ _).set (p := ⟨r, 1, none⟩) (.inl (by simp)) _
        have x2 := o2.blk HR1.out.2.1 (by simpa using HR1.out.2.1.ne HR1.out.2.2.2.me (by decide))
        have zz2 := o2.blk HR1.out.2.2.1 (by simpa using HR1.out.2.2.1.ne HR1.out.2.2.2.me (by decide))
        have R2 : RrAt base r W2 now l va := HR1.out.2.2.2.to (last' := now) o2 (fun k hk _ => by obtain rfl := List.mem_singleton.1 hk; exact ⟨_, _, HR1.out.2.2.2.me, by decide, by decide⟩) (by rw [hW2]; exact HR1.out.2.2.2.me.set 1 _) (off_only HR1.out.2.2.2.row o2 (fun k hk => by simp; rintro rfl; exact off_ne_blk HR1.out.2.2.2.row HR1.out.2.2.2.me (by decide) hk)) (fun z hz => hz)
        have HW2 := hide hW2
        have H2 := hide (show _ ∧ _ ∧ _ ∧ _ from ⟨(HR1.out.1.mono (by simp)).trans o2, x2, zz2, R2⟩)
        have HNOW := hide (show 0 ≤ now ∧ now ≤ 1099511627776 by have ht := HT.out; unfold tickB at ht; simpa using ht)
        have HL := hide hlast
        have HRR := hide (show w.heap.size ≠ r ∧ w.heap.size + 1 ≠ r from ⟨H2.out.2.1.ne H2.out.2.2.2.me (by decide), H2.out.2.2.1.ne H2.out.2.2.2.me (by decide)⟩)
        clear o2 x2 zz2 R2 hW2
        go_upto_region 6 with (fail)
        rw [show w2.setCell ⟨r, 1, none⟩ (.int .i64 now) = W2 from HW2.out.symm]
        clear ltr r1 z1
        go_wp2
        go_loopw [9] (fun i wr => ∃ k n : Nat, k ≤ n ∧ n ≤ 16 ∧ i = .int .i64 k ∧ Hid (RExpAt base r now l va p w k n wr)) (fun i wr => sliceLen wr r - (Go.RowKit.intOf i).toNat)
        case atStart => exact ⟨0, l.length, Nat.zero_le _, HLL.out, rfl, hide ⟨[], l, va, rfl, rfl, rfl, List.Sublist.refl _, H2.out.2.2.2, H2.out.2.1, H2.out.2.2.1, H2.out.1, .inl rfl⟩⟩
        case round =>
          obtain ⟨k, n, hkn, hn16, rfl, HW⟩ := hrel
          rcases Nat.lt_or_ge k n with hlt | hge
          · obtain ⟨done, rest, va1, hd, hn, hE, hs, hR, hb, hz, ho, hvb⟩ := HW.out
            have hsl := hide (show sliceLen wr r = n by rw [hR.slen, hn])
            cases rest with
            | nil => simp at hn; omega
            | cons x rest =>
              have hx : (done ++ x :: rest)[k]? = some x := by rw [List.getElem?_append_right (by omega), hd]; simp
              have hr := hR.row
              rw [hn] at hr
              obtain ⟨g, o, c, cs, rfl, hB, -, -⟩ := off_blk hr (by omega)
              have y8 := row_cells hr hx 8 _ rfl
              have r0 := hR.me.cell (i := 0) rfl
              have ltr := hR.me.lt
              have hfx := HK.out.fit x.c (List.mem_map.2 ⟨x, hs.subset (List.mem_of_getElem? hx), rfl⟩)
              have e1 : IntKind.i64.wrap (now - x.c.bg) = now - x.c.bg := by have h1 := HNOW.out; have h2 := hfx.b; simp [IntKind.wrap, IntKind.bits, IntKind.signed]; omega
              have HX := hide (show _ ∧ _ ∧ _ ∧ _ ∧ _ ∧ _ ∧ _ ∧ _ ∧ _ from ⟨hd, hn, hE, hs, hR, hb, hz, ho, hvb⟩)
              have HBR := hide (show base ≤ wr.heap.size from Nat.le_trans HBW.out ho.size)
              clear hd hn hE hs hR hb hz ho hvb hx hr hB hfx HW
              by_cases hage : (600 : Int) ≤ now - x.c.bg
              · have HAGE := hide (show ¬ now - x.c.bg < 600 by omega)
                go_wp2_with fail
                refine (rremove_ok base r k n now (done ++ x :: rest) _ _ HX.out.2.1 hlt (by omega) HX.out.2.2.2.2.1 HBR.out).mono ?_
                rintro e w5 ⟨v5, va5, rfl, hR5, ho5, hv5⟩
                have HE := hide (RExpAt.old (va := va) HX.out.1 HX.out.2.1 HX.out.2.2.1 HX.out.2.2.2.1 HX.out.2.2.2.2.2.1 HX.out.2.2.2.2.2.2.1 HX.out.2.2.2.2.2.2.2.1 (by have := HAGE.out; omega) hR5 ho5 hv5 HRR.out)
                have hs5 : sliceLen w5 r = n - 1 := by rw [hR5.slen, List.length_eraseIdx_of_lt (by rw [HX.out.2.1]; exact hlt), HX.out.2.1]
                have HS5 := hide hs5
                clear hR5 ho5 hv5 hs5
                go_wp2
                go_roundw
                case rel => exact ⟨k, n - 1, by omega, by omega, rfl, HE⟩
                case measure => rw [hsl.out, HS5.out]; simp [Go.RowKit.intOf]; omega
              · have HAGE := hide (show now - x.c.bg < 600 by omega)
                have HE := hide (RExpAt.young HX.out.1 HX.out.2.1 HX.out.2.2.1 HX.out.2.2.2.1 HX.out.2.2.2.2.1 HX.out.2.2.2.2.2.1 HX.out.2.2.2.2.2.2.1 HX.out.2.2.2.2.2.2.2.1 HX.out.2.2.2.2.2.2.2.2 (by have := HAGE.out; omega))
                go_wp2
                go_roundw
                case rel => exact ⟨k + 1, n, by omega, hn16, by go_num, HE⟩
                case measure => rw [hsl.out]; simp [Go.RowKit.intOf]; omega
          · obtain rfl : k = n := by omega
            obtain ⟨done, rest, va1, hd, hn, hE, hs, hR, hb, hz, ho, hvb⟩ := HW.out
            have hre : rest = [] := by apply List.eq_nil_of_length_eq_zero; simp at hn; omega
            subst hre
            have hE2 : expR now l = done := by rw [hE]; simp [expR]
            rw [List.append_nil, ← hE2] at hR hn
            have hr := hR.row
            rw [hn] at hr
            obtain ⟨A1, c1, rfl⟩ := off_shape hr
            have HS := hide (show _ ∧ _ ∧ _ ∧ _ ∧ _ ∧ _ ∧ _ from ⟨hR, hn, hr, hb, hz, ho, hvb⟩)
            have r0 := hR.me.cell (i := 0) rfl
            have ltr := hR.me.lt
            obtain ⟨f0, f1, f2, f3, f4, f5, f6, f7⟩ := hb.pkt8r
            have ltx := hb.lt
            have HAW := hide (HA.out.1.far ho (fun g o s e hne hm => HA.out.2.2 g o s e hne (mem_rfoot.2 (.inl (List.mem_singleton.1 hm)))))
            have HM3 : Hid (addM last (l.map (·.c)) p now = if p.off = 0 ∧ p.more = false then ⟨now, expC now (l.map (·.c)), p, true, 0⟩ else addM last (l.map (·.c)) p now) := hide (by
              split
              · rename_i hc
                unfold addM
                rw [if_neg (by have h1 := HV.out; have h2 := HNOW.out; simp [h1]; omega), if_neg (by have := HL.out; omega), if_pos hc]
              · rfl)
            clear hd hn hE hs hR hb hz ho hvb hr hE2 HW hge hkn
            by_cases hone : p.off = 0 ∧ p.more = false
            · obtain ⟨ho0, hm0⟩ := hone
              have HM4 := hide (HM3.out.trans (if_pos ⟨ho0, hm0⟩))
              have e5 : (p.off == 0) = true := by simp [ho0]
              rw [hm0] at f6
              rw [ho0] at f5
              have HP : Hid (p.cells = [.int .u32 p.src, .int .u32 p.dst, I64 p.proto, I64 p.ttl, I64 p.id, I64 0, .bool false, .slice p.A p.data.length p.cap]) := hide (by show [Value.int .u32 p.src, Value.int .u32 p.dst, I64 p.proto, I64 p.ttl, I64 p.id, I64 p.off, Value.bool p.more, .slice p.A p.data.length p.cap] = _; rw [ho0, hm0])
              have HPE := hide (show _ ∧ _ from ⟨ho0, hm0⟩)
              clear ho0 hm0
              have hO2 : Only [] wr ((wr.alloc (.cells #[.int .u32 p.src, .int .u32 p.dst, I64 p.proto, I64 p.ttl, I64 p.id, I64 0, .bool false, .slice p.A p.data.length p.cap] rpktT)).alloc (.cells #[] u8T)) := ((Only.refl [] wr).alloc _).alloc _
              have hB2 : Blk ((wr.alloc (.cells #[.int .u32 p.src, .int .u32 p.dst, I64 p.proto, I64 p.ttl, I64 p.id, I64 0, .bool false, .slice p.A p.data.length p.cap] rpktT)).alloc (.cells #[] u8T)) wr.heap.size rpktT [.int .u32 p.src, .int .u32 p.dst, I64 p.proto, I64 p.ttl, I64 p.id, I64 0, .bool false, .slice p.A p.data.length p.cap] := (Blk.newA rfl).alloc _
              have hB3 : Blk ((wr.alloc (.cells #[.int .u32 p.src, .int .u32 p.dst, I64 p.proto, I64 p.ttl, I64 p.id, I64 0, .bool false, .slice p.A p.data.length p.cap] rpktT)).alloc (.cells #[] u8T)) (wr.heap.size + 1) u8T (bcells []) := Blk.newA (by simp)
              obtain ⟨A', c', W5, hr, k1, k2, k3, hcc⟩ := append_full ((wr.alloc (.cells #[.int .u32 p.src, .int .u32 p.dst, I64 p.proto, I64 p.ttl, I64 p.id, I64 0, .bool false, .slice p.A p.data.length p.cap] rpktT)).alloc (.cells #[] u8T)) (wr.heap.size + 1) 0 u8T [] hB3 rfl p.A p.data p.data.length p.cap rfl (HAW.out.only hO2) (by omega) (fun h => (HA.out.2.1 h).1)
              rw [Nat.zero_add] at hr
              have hbb : BytesBlk W5 (some A') p.data := by
                rcases Nat.eq_zero_or_pos p.data.length with h0 | h0
                · exact .inl (List.length_eq_zero_iff.1 h0)
                · obtain ⟨g, rest, h4, h5, _⟩ := k3 h0
                  exact .inr ⟨g, rest, by rw [h4], by simpa using h5⟩
              have hb5 := k1.blk hB2 (by simp)
              have HR := hide hr
              have g0 := hb5.cell (i := 0) rfl
              have g1 := hb5.cell (i := 1) rfl
              have g2 := hb5.cell (i := 2) rfl
              have g3 := hb5.cell (i := 3) rfl
              have g4 := hb5.cell (i := 4) rfl
              have g5 := hb5.cell (i := 5) rfl
              have g6 := hb5.cell (i := 6) rfl
              have g7 := hb5.cell (i := 7) rfl
              have z7 := hb5.frozen 7
              have lt5 := hb5.lt
              have HO5 := hide (show Only [] wr W5 from Only.trans hO2 k1)
              have HB5 := hide (And.intro hb5 hbb)
              clear hr k1 k2 k3 hcc hbb hb5 hO2 hB2 hB3
              go_upto_region 14 with (at_builtin; refine wpList_append_eq rfl (.tmp 73) (.tmp 75) 28 rfl _ _ _ rfl rfl HR.out ?_)
              obtain ⟨W6, hW6⟩ : ∃ W, W = W5.setCell ⟨wr.heap.size, 7, none⟩ (.slice (some A') p.data.length c') := ⟨_, rfl⟩
              rw [← hW6]
              have hO56 : Only [wr.heap.size] W5 W6 := by rw [hW6]; exact (Only.refl _ _).set (p := ⟨wr.heap.size, 7, none⟩) (.inl (by simp)) _
              have hO6 : Only [] wr W6 := HO5.out.trans' hO56 (by intro i hi hl; simp at hi; omega)
              have hpa : (p.at (some A') c').cells = [.int .u32 p.src, .int .u32 p.dst, I64 p.proto, I64 p.ttl, I64 p.id, I64 0, .bool false, .slice (some A') p.data.length c'] := by show [Value.int .u32 p.src, Value.int .u32 p.dst, I64 p.proto, I64 p.ttl, I64 p.id, I64 p.off, Value.bool p.more, .slice (some A') p.data.length c'] = _; rw [HPE.out.1, HPE.out.2]
              have hB6 : Blk W6 wr.heap.size rpktT [.int .u32 p.src, .int .u32 p.dst, I64 p.proto, I64 p.ttl, I64 p.id, I64 0, .bool false, .slice (some A') p.data.length c'] := by rw [hW6]; exact HB5.out.1.set 7 _
              have hbb6 : BytesBlk W6 (some A') p.data := HB5.out.2.sameOn (fun j cs' hj => hO56.block j hj.lt (by simpa using hj.ne HB5.out.1 (by decide)))
              have hz6 := hO6.blk HS.out.2.2.2.2.1 (by simp)
              have H6 := hide (show _ ∧ _ ∧ _ ∧ _ ∧ _ from ⟨hO6, hB6, hbb6, hz6, hpa⟩)
              clear hO56 g0 g1 g2 g3 g4 g5 g6 g7 z7 lt5 f0 f1 f2 f3 f4 f5 f6 f7 ltx r0 ltr e5 hW6
              have g0 := hB6.cell (i := 0) rfl
              have g1 := hB6.cell (i := 1) rfl
              have g2 := hB6.cell (i := 2) rfl
              have g3 := hB6.cell (i := 3) rfl
              have g4 := hB6.cell (i := 4) rfl
              have g5 := hB6.cell (i := 5) rfl
              have g6 := hB6.cell (i := 6) rfl
              have g7 := hB6.cell (i := 7) rfl
              have lt6 := hB6.lt
              clear hO6 hB6 hbb6 hz6 hpa
              go_wp2_with (refine wpList_store_cells rfl rpktT (.tmp 6) (.tmp 78) rfl (w.heap.size + 1) 0 rfl [.int .u32 p.src, .int .u32 p.dst, I64 p.proto, I64 p.ttl, I64 p.id, I64 0, .bool false, .slice (some A') p.data.length c'] rfl rpktT zsP H6.out.2.2.2.1 (by exact Nat.le_refl _) (by kernel_rfl) (by simp [Value.oneCell']) ?_; intro v1 hw3)
              refine bodyPost_ret (results_cell_tmp2 rfl _ _ _ rfl (load_rpkt (p := p.at (some A') c') (Blk.to hw3.1 (by rw [H6.out.2.2.2.2]; rfl)))) rfl ?_
              rw [HM4.out]
              have hb9 := (H6.out.2.2.1.sameOn (w' := v1) (fun j cs' hj => hw3.2.1.block j hj.lt (by simpa using hj.ne H6.out.2.2.2.1 (by decide)))).nums
              refine ⟨some A', c', expR now l, _, rfl, hb9, expR_map now l, (HS.out.1.keep H6.out.1).offz H6.out.2.2.2.1 hw3.2.1, ?_, fun j hj => rfoot_sub (fun z hz => (expR_sub now l).subset hz) HS.out.2.2.2.2.2.2 hj⟩
              exact ((HS.out.2.2.2.2.2.1.mono (S' := r :: va.ownBlock.toList) (by intro j hj _; simp at hj ⊢; exact .inl hj)).trans' H6.out.1 (by simp)).trans' hw3.2.1 (by intro i hi hlt; simp at hi; omega)
            · have HNO := hide hone
              have hc1 : ((p.off == 0) = false) ∨ p.more = true := by
                by_cases h1 : p.off = 0
                · right
                  cases hm : p.more with
                  | true => rfl
                  | false => exact absurd ⟨h1, hm⟩ hone
                · left; simpa using h1
              clear hone
              go_upto_region 11 with (fail)
              go_cut [71] from 64 to 71 (fun s wx => s = .bool false ∧ wx = wr)
              case first =>
                obtain ⟨q, hq⟩ : ∃ q, q = p.off := ⟨_, rfl⟩
                obtain ⟨mm, hmm⟩ : ∃ mm, mm = p.more := ⟨_, rfl⟩
                have hc2 : ¬ q = 0 ∨ mm = true := by rw [hq, hmm]; rcases hc1 with h1 | h1; exact .inl (by simpa using h1); exact .inr h1
                rw [← hq] at f5
                rw [← hmm] at f6
                clear hq hmm hc1
                rcases hc2 with h2 | rfl
                · go_wp2
                  go_meet
                  exact ⟨rfl, rfl⟩
                · by_cases h3 : q = 0
                  · subst h3
                    go_wp2
                    go_meet
                    exact ⟨rfl, rfl⟩
                  · go_wp2
                    go_meet
                    exact ⟨rfl, rfl⟩
              case rest =>
                obtain ⟨rfl, rfl⟩ := hcut
                clear hc1
                go_wp2
                go_loopw [11, 12] (fun kk ii wr => ∃ (i : Nat) (z : Int), i ≤ k ∧ ii = .int .i64 i ∧ kk = .int .i64 z ∧ Hid (SrchS (expR now l) p i z ∧ Only [] wc wr)) (fun _ ii _ => k - (Go.RowKit.intOf ii).toNat)
                case atStart => exact ⟨0, -1, Nat.zero_le _, rfl, rfl, hide ⟨.inl ⟨rfl, fun j x hj => by omega⟩, Only.refl _ _⟩⟩
                case round =>
                  obtain ⟨i, z, hi, rfl, rfl, HW⟩ := hrel
                  clear f0 f1 f2 f3 f4 f5 f6 f7 ltx r0 ltr
                  have HR2 := hide (show _ ∧ _ ∧ _ ∧ _ ∧ _ from ⟨HS.out.1.keep HW.out.2, off_keep HS.out.2.2.1 HW.out.2, HW.out.2.blk HS.out.2.2.2.1 (by simp), HW.out.2.blk HS.out.2.2.2.2.1 (by simp), HS.out.2.2.2.2.2.1.trans' HW.out.2 (by simp)⟩)
                  obtain ⟨f0, f1, f2, f3, f4, f5, f6, f7⟩ := HR2.out.2.2.1.pkt8r
                  have ltx := HR2.out.2.2.1.lt
                  have r0 := HR2.out.1.me.cell (i := 0) rfl
                  have ltr := HR2.out.1.me.lt
                  rcases Nat.lt_or_ge i k with hlt | hge
                  · obtain ⟨x, hx⟩ : ∃ x, (expR now l)[i]? = some x := ⟨_, List.getElem?_eq_getElem (by rw [HS.out.2.1]; exact hlt)⟩
                    obtain ⟨g, o, c, cs, hva, hB, -, -⟩ := off_blk HR2.out.2.1 (by omega)
                    injection hva with h1 h2 h3
                    subst h1 h3
                    have y0 := row_cells HR2.out.2.1 hx 0 _ rfl
                    rw [Nat.add_zero] at y0
                    have y1 := row_cells HR2.out.2.1 hx 1 _ rfl
                    have y2 := row_cells HR2.out.2.1 hx 2 _ rfl
                    have y3 := row_cells HR2.out.2.1 hx 3 _ rfl
                    have y4 := row_cells HR2.out.2.1 hx 4 _ rfl
                    have y5 := row_cells HR2.out.2.1 hx 5 _ rfl
                    have y6 := row_cells HR2.out.2.1 hx 6 _ rfl
                    have y7 := row_cells HR2.out.2.1 hx 7 _ rfl
                    have ltg := hB.lt
                    have HX := hide hx
                    clear hx hB hi h2
                    cases hkb : keyB x.c.h p with
                    | true =>
                      have HZ := hide (SrchS.hit HX.out hkb)
                      have HKB := hide hkb
                      clear hkb
                      go_wp2
                      refine wp_region_text 9 [] [] [] (fun _ => True) (by kernel_rfl) (by kernel_rfl) trivial ?_
                      simp only [List.take_succ_cons, List.take_zero, List.drop_succ_cons, List.drop_zero]
                      repeat (first | ((refine wpText_h rfl rfl ?_; apply Exists.intro; refine ⟨?_, ?_⟩; next => (go_simp; (try (go_bits; go_simp)); (first | done | with_reducible rfl | (rw [if_neg (by omega)]; (try (go_bits; go_simp)); (first | done | with_reducible rfl)) | (rw [if_pos (by omega)]; (try (go_bits; go_simp)); (first | done | with_reducible rfl))))); (try simp only [Act.put, List.setIfInBounds_toArray, List.set_cons_zero, List.set_cons_succ])) | ((refine wpText_p rfl rfl ?_; apply Exists.intro; refine ⟨?_, ?_⟩; next => (intro w'; go_simp; (try (go_bits; go_simp)); (first | done | with_reducible rfl | (rw [if_neg (by omega)]; (try (go_bits; go_simp)); (first | done | with_reducible rfl)) | (rw [if_pos (by omega)]; (try (go_bits; go_simp)); (first | done | with_reducible rfl))))); (try simp only [Act.put, List.setIfInBounds_toArray, List.set_cons_zero, List.set_cons_succ])) | ((refine wpText_y rfl rfl ?_; apply Exists.intro; refine ⟨?_, ?_⟩; next => (intro w' hS; (first | obtain ⟨_, rfl⟩ := hS | skip); go_simp; (try (go_bits; go_simp)); (first | done | with_reducible rfl | (rw [if_neg (by omega)]; (try (go_bits; go_simp)); (first | done | with_reducible rfl)) | (rw [if_pos (by omega)]; (try (go_bits; go_simp)); (first | done | with_reducible rfl))))); (try simp only [Act.put, List.setIfInBounds_toArray, List.set_cons_zero, List.set_cons_succ])) | (refine wpText_skip (by first | exact .inl rfl | exact .inr (.inl rfl) | exact .inr (.inr rfl)) rfl ?_; (try simp only [Act.put, List.setIfInBounds_toArray, List.set_cons_zero, List.set_cons_succ])))
                      refine wpText_nil ?_
                      go_wp2_with fail
                      refine (rsame_ok x.c.h p (.slice none 0 0) (.slice p.A p.data.length p.cap) _ rfl rfl).mono ?_
                      rintro e w4 ⟨rfl, ho4⟩
                      rw [HKB.out]
                      have HO4 := hide (HW.out.2.trans ((Only.refl [] wr).drew.trans ho4))
                      clear ho4
                      go_wp2
                      refine NoX.normal ?_
                      go_wp2
                      go_roundw
                      case rel => exact ⟨i + 1, i, by omega, by go_num, rfl, hide ⟨HZ.out, HO4.out⟩⟩
                      case measure => simp [Go.RowKit.intOf]; omega
                    | false =>
                      have HZ := hide (SrchS.miss HW.out.1 HX.out hkb)
                      have HKB := hide hkb
                      clear hkb
                      go_wp2
                      refine wp_region_text 9 [] [] [] (fun _ => True) (by kernel_rfl) (by kernel_rfl) trivial ?_
                      simp only [List.take_succ_cons, List.take_zero, List.drop_succ_cons, List.drop_zero]
                      repeat (first | ((refine wpText_h rfl rfl ?_; apply Exists.intro; refine ⟨?_, ?_⟩; next => (go_simp; (try (go_bits; go_simp)); (first | done | with_reducible rfl | (rw [if_neg (by omega)]; (try (go_bits; go_simp)); (first | done | with_reducible rfl)) | (rw [if_pos (by omega)]; (try (go_bits; go_simp)); (first | done | with_reducible rfl))))); (try simp only [Act.put, List.setIfInBounds_toArray, List.set_cons_zero, List.set_cons_succ])) | ((refine wpText_p rfl rfl ?_; apply Exists.intro; refine ⟨?_, ?_⟩; next => (intro w'; go_simp; (try (go_bits; go_simp)); (first | done | with_reducible rfl | (rw [if_neg (by omega)]; (try (go_bits; go_simp)); (first | done | with_reducible rfl)) | (rw [if_pos (by omega)]; (try (go_bits; go_simp)); (first | done | with_reducible rfl))))); (try simp only [Act.put, List.setIfInBounds_toArray, List.set_cons_zero, List.set_cons_succ])) | ((refine wpText_y rfl rfl ?_; apply Exists.intro; refine ⟨?_, ?_⟩; next => (intro w' hS; (first | obtain ⟨_, rfl⟩ := hS | skip); go_simp; (try (go_bits; go_simp)); (first | done | with_reducible rfl | (rw [if_neg (by omega)]; (try (go_bits; go_simp)); (first | done | with_reducible rfl)) | (rw [if_pos (by omega)]; (try (go_bits; go_simp)); (first | done | with_reducible rfl))))); (try simp only [Act.put, List.setIfInBounds_toArray, List.set_cons_zero, List.set_cons_succ])) | (refine wpText_skip (by first | exact .inl rfl | exact .inr (.inl rfl) | exact .inr (.inr rfl)) rfl ?_; (try simp only [Act.put, List.setIfInBounds_toArray, List.set_cons_zero, List.set_cons_succ])))
                      refine wpText_nil ?_
                      go_wp2_with fail
                      refine (rsame_ok x.c.h p (.slice none 0 0) (.slice p.A p.data.length p.cap) _ rfl rfl).mono ?_
                      rintro e w4 ⟨rfl, ho4⟩
                      rw [HKB.out]
                      have HO4 := hide (HW.out.2.trans ((Only.refl [] wr).drew.trans ho4))
                      clear ho4
                      go_wp2
                      refine NoX.normal ?_
                      go_wp2
                      go_roundw
                      case rel => exact ⟨i + 1, z, by omega, by go_num, rfl, hide ⟨HZ.out, HO4.out⟩⟩
                      case measure => simp [Go.RowKit.intOf]; omega
                  · obtain rfl : i = k := by omega
                    have HAW2 := hide (HAW.out.far HW.out.2 (by simp))
                    have HIX : Hid (∀ (j : Nat) (x : RP), (expR now l)[j]? = some x → keyB x.c.h p = true → (expR now l).map (·.c) = withC (expC now (l.map (·.c))) p now) := hide (fun j x hx hkb => by
                      unfold withC
                      rw [← expR_map, if_pos (at_some (q := fun c : Col => keyB c.h p) (List.mem_map.2 ⟨x, List.mem_of_getElem? hx, rfl⟩) hkb)])
                    have HOK := hide (colsOk_withC (p := p) (HK.out.sub (show (expC now (l.map (·.c))).Sublist _ from List.filter_sublist)) HF.out HNOW.out)
                    have HLT := hide (show ¬ now < last by have := HL.out; omega)
                    have HN2 := hide (show ¬ (p.off = 0 ∧ p.more = false) from by have := HNO.out; simpa using this)
                    by_cases h64 : ∃ (j : Nat) (x : RP), j < i ∧ z = (j : Int) ∧ (expR now l)[j]? = some x ∧ keyB x.c.h p = true ∧ x.c.cnt = 64
                    · obtain ⟨j, x, hj, rfl, hx, hkb, hc64⟩ := h64
                      have HM5 : Hid (addM last (l.map (·.c)) p now = ⟨now, ((expR now l).map (·.c)).eraseIdx j, zeroP, false, 18⟩) := hide (by
                        have hm := HIX.out j x hx hkb
                        have hok := HOK.out
                        rw [← hm] at hok
                        rw [addM_ix (k := j) (c := x.c) HV.out HNOW.out HLT.out HN2.out hm (hok.one HF.out) (by rw [List.getElem?_map, hx]; rfl) hkb, if_pos hc64])
                      obtain ⟨g, o, c, cs, hva, hB, -, -⟩ := off_blk HR2.out.2.1 (by omega)
                      injection hva with h1 h2 h3
                      subst h1 h3
                      have y12 := row_cells HR2.out.2.1 hx 12 _ rfl
                      rw [hc64] at y12
                      have ltg := hB.lt
                      clear hx hB hi h2 hkb hc64
                      go_wp2_with fail
                      refine (rremove_ok base r j i now (expR now l) _ _ HS.out.2.1 hj (by omega) HR2.out.1 (Nat.le_trans HBW.out HR2.out.2.2.2.2.size)).mono ?_
                      rintro e w5 ⟨v5, va5, rfl, hR5, ho5, hv5⟩
                      have HZ5 := hide (ho5.blk HR2.out.2.2.2.1 (by simpa using HRR.out.2))
                      have HR5 := hide (show _ ∧ _ ∧ _ from ⟨hR5, ho5, hv5⟩)
                      clear hR5 ho5 hv5 f0 f1 f2 f3 f4 f5 f6 f7 ltx r0 ltr y12 ltg
                      go_wp2_with (refine wpList_store_cells rfl rpktT (.tmp 6) (.tmp 115) rfl (w.heap.size + 1) 0 rfl zsP rfl rpktT zsP HZ5.out (by exact Nat.le_refl _) (by kernel_rfl) (by simp [Value.oneCell']) ?_; intro v1 hw3)
                      refine bodyPost_ret (results_cell_tmp2 rfl _ _ _ rfl (load_rpkt (p := zeroP) (Blk.to hw3.1 (by rfl)))) rfl ?_
                      rw [HM5.out]
                      refine ⟨none, 0, (expR now l).eraseIdx j, va5, rfl, fun k x hx => by simp [zeroP] at hx, ?_, HR5.out.1.offz HZ5.out hw3.2.1, ?_, fun q hq => rfoot_sub (N := w.heap.size) (fun z hz => (expR_sub now l).subset (List.mem_of_mem_eraseIdx hz)) (.inr fun q hq => Nat.le_trans HR2.out.2.2.2.2.size (HR5.out.2.2 q hq)) hq⟩
                      · show ((expR now l).eraseIdx j).map _ = ((expR now l).map _).eraseIdx j
                        rw [List.eraseIdx_eq_take_drop_succ, List.eraseIdx_eq_take_drop_succ, List.map_append, List.map_take, List.map_drop]
                      · exact ((HR2.out.2.2.2.2.trans HR5.out.2.1).mono (S' := r :: va.ownBlock.toList) (by intro q hq _; simp at hq ⊢; exact .inl hq)).trans' hw3.2.1 (by intro q hq hlt; simp at hq; omega)
                    · have HN64 := hide h64
                      clear h64
                      go_upto_region 21 with (fail)
                      go_cut [111] from 99 to 111 (fun s wx => s = .bool false ∧ wx = wr)
                      case first =>
                        rcases HW.out.1 with ⟨rfl, -⟩ | ⟨j, x, hj, rfl, hx, hkb⟩
                        · go_wp2
                          go_meet
                          exact ⟨rfl, rfl⟩
                        · obtain ⟨g, o, c, cs, hva, hB, -, -⟩ := off_blk HR2.out.2.1 (by omega)
                          injection hva with h1 h2 h3
                          subst h1 h3
                          have y12 := row_cells HR2.out.2.1 hx 12 _ rfl
                          have ltg := hB.lt
                          have d64 : ((x.c.cnt : Int) == 64) = false := by
                            have := HN64.out
                            simp only [beq_eq_false_iff_ne]
                            intro e
                            exact this ⟨j, x, hj, rfl, hx, hkb, by omega⟩
                          clear hx hB hi h2 hkb
                          go_wp2
                          go_meet
                          exact ⟨rfl, rfl⟩
                      case rest =>
                        obtain ⟨rfl, rfl⟩ := hcut
                        go_upto_if 117 with (fail)
                        go_cut [11] from 99 to 117 (fun s wx => RFoundAt base r now l va p w s wx)
                        case first =>
                          rcases HW.out.1 with ⟨rfl, hnone⟩ | ⟨j, x, hj, rfl, hx, hkb⟩
                          · have HIN := hide (show ¬ (expC now (l.map (·.c))).any (fun c => keyB c.h p) = true from by
                              rw [← expR_map, at_none (q := fun c : Col => keyB c.h p) (fun c hc => by
                                obtain ⟨x, hx, rfl⟩ := List.mem_map.1 hc
                                obtain ⟨j, hj, e⟩ := List.getElem_of_mem hx
                                exact hnone j x (by rw [← HS.out.2.1]; exact hj) (by rw [List.getElem?_eq_getElem hj, e]))]
                              simp)
                            clear hnone
                            go_upto_if 123 with (fail)
                            go_cut [] from 112 to 123 (fun wx => RRoomAt base r now l va p w wx)
                            case first =>
                              by_cases h16 : i = 16
                              · have d16 : ((i : Int) == 16) = true := by simp [h16]
                                have H16 := hide h16
                                clear h16
                                go_wp2_with fail
                                refine (rremove_ok base r 0 i now (expR now l) _ _ HS.out.2.1 (by have := H16.out; omega) (by have := H16.out; omega) HR2.out.1 (Nat.le_trans HBW.out HR2.out.2.2.2.2.size)).mono ?_
                                rintro e w5 ⟨v5, va5, rfl, hR5, ho5, hv5⟩
                                have HR5 := hide (show _ ∧ _ ∧ _ from ⟨hR5, ho5, hv5⟩)
                                clear hR5 ho5 hv5
                                go_wp2
                                go_meet
                                refine ⟨(expR now l).eraseIdx 0, va5, ?_, ?_, fun z hz => (expR_sub now l).subset (List.mem_of_mem_eraseIdx hz), HR5.out.1, HR5.out.2.1.blk HR2.out.2.2.1 (by simpa using HRR.out.1), HR5.out.2.1.blk HR2.out.2.2.2.1 (by simpa using HRR.out.2), HR2.out.2.2.2.2.trans HR5.out.2.1, .inr fun q hq => Nat.le_trans HR2.out.2.2.2.2.size (HR5.out.2.2 q hq)⟩
                                · rw [erase_map, expR_map]
                                  unfold roomC
                                  rw [if_pos (by rw [← expR_map, List.length_map, HS.out.2.1]; have := H16.out; omega)]
                                  cases expC now (l.map (·.c)) <;> rfl
                                · rw [List.length_eraseIdx_of_lt (by rw [HS.out.2.1]; have := H16.out; omega), HS.out.2.1]
                                  omega
                              · have d16 : ((i : Int) == 16) = false := by simp; omega
                                have H16 := hide h16
                                clear h16
                                go_wp2
                                go_meet
                                refine ⟨expR now l, _, ?_, by rw [HS.out.2.1]; omega, fun z hz => (expR_sub now l).subset hz, HR2.out.1, HR2.out.2.2.1, HR2.out.2.2.2.1, HR2.out.2.2.2.2, HS.out.2.2.2.2.2.2⟩
                                rw [expR_map]
                                unfold roomC
                                rw [if_neg (by rw [← expR_map, List.length_map, HS.out.2.1]; have := H16.out; omega)]
                            case rest =>
                              obtain ⟨l3, va3, hm3, hl3, hs3, hR3, hb3, hz3, ho3, hv3⟩ := hcut
                              obtain ⟨n3, hn3⟩ : ∃ n, n = l3.length := ⟨_, rfl⟩
                              have hr3 := hR3.row
                              rw [← hn3] at hr3 hl3
                              obtain ⟨A3, c3, rfl⟩ := off_shape hr3
                              clear f0 f1 f2 f3 f4 f5 f6 f7 ltx r0 ltr
                              obtain ⟨f0, f1, f2, f3, f4, f5, f6, f7⟩ := hb3.pkt8r
                              have ltx := hb3.lt
                              have r0 := hR3.me.cell (i := 0) rfl
                              have ltr := hR3.me.lt
                              have HRM := hide (show _ ∧ _ ∧ _ ∧ _ ∧ _ ∧ _ ∧ _ from ⟨hm3, hn3, hs3, hR3, hb3, hz3, ho3⟩)
                              have HV3 := hide hv3
                              clear hm3 hn3 hs3 hR3 hb3 hz3 ho3 hv3 hr3
                              go_upto_region 29 with (fail)
                              obtain ⟨W9, hW9⟩ : ∃ W, W = wc.alloc (.cells #[.int .u32 p.src, .int .u32 p.dst, I64 p.proto, I64 p.ttl, I64 p.id, I64 p.off, .bool p.more, .slice none 0 0] rpktT) := ⟨_, rfl⟩
                              rw [show wc.alloc (.cells #[.int .u32 p.src, .int .u32 p.dst, I64 p.proto, I64 p.ttl, I64 p.id, I64 p.off, .bool p.more, .slice none 0 0] rpktT) = W9 from hW9.symm]
                              have o9 : Only [] wc W9 := by rw [hW9]; exact (Only.refl [] wc).alloc _
                              have hB9 : Blk W9 wc.heap.size rpktT [.int .u32 p.src, .int .u32 p.dst, I64 p.proto, I64 p.ttl, I64 p.id, I64 p.off, .bool p.more, .slice none 0 0] := by rw [hW9]; exact Blk.newA (w := wc) rfl
                              have H9 := hide (show _ ∧ _ ∧ _ ∧ _ from ⟨o9, hB9, HRM.out.2.2.2.1.keep o9, Nat.le_trans HBW.out (Nat.le_trans HRM.out.2.2.2.2.2.2.size o9.size)⟩)
                              have H9B := hide (show _ ∧ _ ∧ _ from ⟨o9.blk HRM.out.2.2.2.2.1 (by simp), o9.blk HRM.out.2.2.2.2.2.1 (by simp), HRM.out.2.2.2.2.2.2.trans (o9.mono (S' := [r]) (by simp))⟩)
                              have HN3 := hide (show n3 = l3.length from HRM.out.2.1)
                              have HRW3 := hide (show offRow W9 base rcolT 13 (.slice A3 n3 c3) n3 (l3.flatMap rcc) by have h3 := H9.out.2.2.1.row; rw [← HN3.out] at h3; exact h3)
                              clear f0 f1 f2 f3 f4 f5 f6 f7 ltx r0 ltr hW9 o9 hB9
                              have hbc := build_rcol p now
                              go_cut [] from 128 to 141 (fun wx => RBegAt base r now p n3 l3 W9 wx)
                              case first =>
                                have HR0 := hide (RowsG.only (RowsG.nil rcolT 13 W9) (Only.refl [] W9).drew)
                                have HS29 := hide (show ∀ W : World, Only [r] W9 W → (fun w' => w'.cell? ⟨wc.heap.size, 0, none⟩ = some (.int .u32 p.src) ∧ w'.cell? ⟨wc.heap.size, 1, none⟩ = some (.int .u32 p.dst) ∧ w'.cell? ⟨wc.heap.size, 2, none⟩ = some (I64 p.proto) ∧ w'.cell? ⟨wc.heap.size, 3, none⟩ = some (I64 p.ttl) ∧ w'.cell? ⟨wc.heap.size, 4, none⟩ = some (I64 p.id) ∧ w'.cell? ⟨wc.heap.size, 5, none⟩ = some (I64 p.off) ∧ w'.cell? ⟨wc.heap.size, 6, none⟩ = some (.bool p.more) ∧ w'.cell? ⟨wc.heap.size, 7, none⟩ = some (.slice none 0 0)) W from fun W hW => by
                                  have hb := hW.blk H9.out.2.1 (by simpa using H9.out.2.1.ne H9.out.2.2.1.me (by decide))
                                  exact ⟨hb.cell (i := 0) rfl, hb.cell (i := 1) rfl, hb.cell (i := 2) rfl, hb.cell (i := 3) rfl, hb.cell (i := 4) rfl, hb.cell (i := 5) rfl, hb.cell (i := 6) rfl, hb.cell (i := 7) rfl⟩)
                                obtain ⟨i0, hi0, hz0, hs0, hb0'⟩ := info_parts rcol_info
                                refine wp_region_sch 15 [1, 5, 6, 10, 11, 14] (fun w' => w'.cell? ⟨wc.heap.size, 0, none⟩ = some (.int .u32 p.src) ∧ w'.cell? ⟨wc.heap.size, 1, none⟩ = some (.int .u32 p.dst) ∧ w'.cell? ⟨wc.heap.size, 2, none⟩ = some (I64 p.proto) ∧ w'.cell? ⟨wc.heap.size, 3, none⟩ = some (I64 p.ttl) ∧ w'.cell? ⟨wc.heap.size, 4, none⟩ = some (I64 p.id) ∧ w'.cell? ⟨wc.heap.size, 5, none⟩ = some (I64 p.off) ∧ w'.cell? ⟨wc.heap.size, 6, none⟩ = some (.bool p.more) ∧ w'.cell? ⟨wc.heap.size, 7, none⟩ = some (.slice none 0 0)) (by kernel_rfl) (by kernel_rfl) (HS29.out _ (HR0.out.1.mono (by simp))) ?_
                                repeat (first | ((refine sch_y rfl rfl rfl rfl ?_; apply Exists.intro; refine ⟨?_, ?_⟩; next => (intro w' hS; (first | obtain ⟨_, rfl⟩ := hS | skip); go_simp; (try (go_bits; go_simp)); (first | done | with_reducible rfl | (rw [if_neg (by omega)]; (try (go_bits; go_simp)); (first | done | with_reducible rfl)) | (rw [if_pos (by omega)]; (try (go_bits; go_simp)); (first | done | with_reducible rfl))))); (try simp only [Act.put, List.setIfInBounds_toArray, List.set_cons_zero, List.set_cons_succ])) | ((refine sch_skip rfl rfl rfl rfl ?_); (try simp only [Act.put, List.setIfInBounds_toArray, List.set_cons_zero, List.set_cons_succ])))
                                refine sch_e3 rfl rfl rfl rfl rfl rfl rfl rfl ?_ ?_ ?_
                                · refine ⟨rfl, fun K hK => ?_⟩
                                  go_wp2
                                  have HR1 := hide (HR0.out.made' #[] 0 [] (W9.heap.size) (by simp) (rfl) (by rfl) (by decide))
                                  refine hK _ _ (HS29.out _ (HR1.out.1.mono (by simp))) ?_
                                  clear hK K
                                  try simp only [Act.put, List.setIfInBounds_toArray, List.set_cons_zero, List.set_cons_succ]
                                  repeat (first | ((refine sch_y rfl rfl rfl rfl ?_; apply Exists.intro; refine ⟨?_, ?_⟩; next => (intro w' hS; (first | obtain ⟨_, rfl⟩ := hS | skip); go_simp; (try (go_bits; go_simp)); (first | done | with_reducible rfl | (rw [if_neg (by omega)]; (try (go_bits; go_simp)); (first | done | with_reducible rfl)) | (rw [if_pos (by omega)]; (try (go_bits; go_simp)); (first | done | with_reducible rfl))))); (try simp only [Act.put, List.setIfInBounds_toArray, List.set_cons_zero, List.set_cons_succ])) | ((refine sch_skip rfl rfl rfl rfl ?_); (try simp only [Act.put, List.setIfInBounds_toArray, List.set_cons_zero, List.set_cons_succ])))
                                  refine sch_e2 rfl rfl rfl rfl rfl rfl ?_ ?_
                                  · refine ⟨rfl, fun K hK => ?_⟩
                                    have q2 : ((W9.alloc (.cells #[] rcolT)).drew).cell? ⟨r, 0, none⟩ = some (.slice A3 n3 c3) := (HR1.out.1.blk H9.out.2.2.1.me (by simp)).cell (i := 0) rfl
                                    go_wp2
                                    refine hK _ _ (HS29.out _ (HR1.out.1.mono (by simp))) ?_
                                    clear q2
                                    clear hK K
                                    try simp only [Act.put, List.setIfInBounds_toArray, List.set_cons_zero, List.set_cons_succ]
                                    repeat (first | ((refine sch_y rfl rfl rfl rfl ?_; apply Exists.intro; refine ⟨?_, ?_⟩; next => (intro w' hS; (first | obtain ⟨_, rfl⟩ := hS | skip); go_simp; (try (go_bits; go_simp)); (first | done | with_reducible rfl | (rw [if_neg (by omega)]; (try (go_bits; go_simp)); (first | done | with_reducible rfl)) | (rw [if_pos (by omega)]; (try (go_bits; go_simp)); (first | done | with_reducible rfl))))); (try simp only [Act.put, List.setIfInBounds_toArray, List.set_cons_zero, List.set_cons_succ])) | ((refine sch_skip rfl rfl rfl rfl ?_); (try simp only [Act.put, List.setIfInBounds_toArray, List.set_cons_zero, List.set_cons_succ])))
                                    refine sch_e2 rfl rfl rfl rfl rfl rfl ?_ ?_
                                    · refine ⟨rfl, fun K hK => ?_⟩
                                      refine wp_appG (.tmp 129) (.tmp 133) 145 rfl rcolT i0 (.agg zsC.toArray) 13 144 Try.underlying145 hi0 hz0 hs0 hb0' rfl (by decide) W9 [] [] _ (.slice (some ⟨W9.heap.size, 0, none⟩) 0 0) (0) ([]) rfl HR1.out rfl base (.slice A3 n3 c3) n3 (l3.flatMap rcc) rfl (off_keep HRW3.out HR1.out.1) (rcc_one H9.out.2.2.1.cols) (by simp only [maxLen]; omega) (by omega) ?_
                                      intro v3 y3 hr
                                      have HR3 := hide hr
                                      clear hr
                                      refine hK _ _ (HS29.out _ (HR3.out.1.mono (by simp))) ?_
                                      clear hK K
                                      try simp only [Act.put, List.setIfInBounds_toArray, List.set_cons_zero, List.set_cons_succ]
                                      repeat (first | ((refine sch_y rfl rfl rfl rfl ?_; apply Exists.intro; refine ⟨?_, ?_⟩; next => (intro w' hS; (first | obtain ⟨_, rfl⟩ := hS | skip); go_simp; (try (go_bits; go_simp)); (first | done | with_reducible rfl | (rw [if_neg (by omega)]; (try (go_bits; go_simp)); (first | done | with_reducible rfl)) | (rw [if_pos (by omega)]; (try (go_bits; go_simp)); (first | done | with_reducible rfl))))); (try simp only [Act.put, List.setIfInBounds_toArray, List.set_cons_zero, List.set_cons_succ])) | ((refine sch_skip rfl rfl rfl rfl ?_); (try simp only [Act.put, List.setIfInBounds_toArray, List.set_cons_zero, List.set_cons_succ])))
                                      refine sch_e1 rfl rfl rfl rfl ?_
                                      · refine ⟨rfl, fun K hK => ?_⟩
                                        go_wp2
                                        have HR4 := hide (HR3.out.made' #[.int .u32 p.src, .int .u32 p.dst, I64 p.proto, I64 p.ttl, I64 p.id, I64 p.off, .bool p.more, .slice none 0 0, I64 now, .slice none 0 0, .slice none 0 0, I64 (-1), I64 0] 1 (rcc (newR p now)) (y3.heap.size) (by simp) (rfl) (by rfl) (by decide))
                                        refine hK _ _ (HS29.out _ (HR4.out.1.mono (by simp))) ?_
                                        clear hK K
                                        try simp only [Act.put, List.setIfInBounds_toArray, List.set_cons_zero, List.set_cons_succ]
                                        repeat (first | ((refine sch_y rfl rfl rfl rfl ?_; apply Exists.intro; refine ⟨?_, ?_⟩; next => (intro w' hS; (first | obtain ⟨_, rfl⟩ := hS | skip); go_simp; (try (go_bits; go_simp)); (first | done | with_reducible rfl | (rw [if_neg (by omega)]; (try (go_bits; go_simp)); (first | done | with_reducible rfl)) | (rw [if_pos (by omega)]; (try (go_bits; go_simp)); (first | done | with_reducible rfl))))); (try simp only [Act.put, List.setIfInBounds_toArray, List.set_cons_zero, List.set_cons_succ])) | ((refine sch_skip rfl rfl rfl rfl ?_); (try simp only [Act.put, List.setIfInBounds_toArray, List.set_cons_zero, List.set_cons_succ])))
                                        refine sch_e1 rfl rfl rfl rfl ?_
                                        · refine ⟨rfl, fun K hK => ?_⟩
                                          refine wp_appG (.tmp 134) (.tmp 138) 145 rfl rcolT i0 (.agg zsC.toArray) 13 144 Try.underlying145 hi0 hz0 hs0 hb0' rfl (by decide) W9 [⟨.slice (some ⟨y3.heap.size, 0, none⟩) 1 1, 1, (rcc (newR p now))⟩] [] _ (v3) (0 + n3) ([] ++ (l3.flatMap rcc)) rfl HR4.out rfl _ (.slice (some ⟨y3.heap.size, 0, none⟩) 1 1) 1 (rcc (newR p now)) rfl (HR4.out.get 0 rfl) (newR_one p now) (by simp only [maxLen]; omega) (by omega) ?_
                                          intro v5 y5 hr
                                          have HR5 := hide hr
                                          clear hr
                                          refine hK _ _ (HS29.out _ (HR5.out.1.mono (by simp))) ?_
                                          clear hK K
                                          try simp only [Act.put, List.setIfInBounds_toArray, List.set_cons_zero, List.set_cons_succ]
                                          repeat (first | ((refine sch_y rfl rfl rfl rfl ?_; apply Exists.intro; refine ⟨?_, ?_⟩; next => (intro w' hS; (first | obtain ⟨_, rfl⟩ := hS | skip); go_simp; (try (go_bits; go_simp)); (first | done | with_reducible rfl | (rw [if_neg (by omega)]; (try (go_bits; go_simp)); (first | done | with_reducible rfl)) | (rw [if_pos (by omega)]; (try (go_bits; go_simp)); (first | done | with_reducible rfl))))); (try simp only [Act.put, List.setIfInBounds_toArray, List.set_cons_zero, List.set_cons_succ])) | ((refine sch_skip rfl rfl rfl rfl ?_); (try simp only [Act.put, List.setIfInBounds_toArray, List.set_cons_zero, List.set_cons_succ])))
                                          refine sch_e1 rfl rfl rfl rfl ?_
                                          · refine ⟨rfl, fun K hK => ?_⟩
                                            have hrw6 := HR5.out.get 1 rfl
                                            simp only at hrw6
                                            rw [Nat.zero_add] at hrw6
                                            have hme6 := HR5.out.1.blk H9.out.2.2.1.me (by simp)
                                            obtain ⟨A6, c6, hv6⟩ := off_shape hrw6
                                            have HW6 := hide (And.intro hrw6 HR5.out.1)
                                            subst hv6
                                            have q6 := hme6.cell (i := 0) rfl
                                            have z6 := hme6.frozen 0
                                            have lq6 := hme6.lt
                                            clear hrw6 hme6
                                            go_wp2
                                            have HE6 := hide (rbeg_end (p := p) (n := n3) (l3 := l3) HW6.out.1 (by omega) (by rw [List.flatMap_append]; simp) HW6.out.2 H9.out.2.2.1.me H9.out.2.2.2)
                                            obtain ⟨v9x, hr9x, hm9x, ho9x, hn9x⟩ := HE6.out
                                            refine hK _ _ (HS29.out _ ho9x) ?_
                                            clear hr9x hm9x ho9x hn9x
                                            clear hK K
                                            try simp only [Act.put, List.setIfInBounds_toArray, List.set_cons_zero, List.set_cons_succ]
                                            repeat (first | ((refine sch_y rfl rfl rfl rfl ?_; apply Exists.intro; refine ⟨?_, ?_⟩; next => (intro w' hS; (first | obtain ⟨_, rfl⟩ := hS | skip); go_simp; (try (go_bits; go_simp)); (first | done | with_reducible rfl | (rw [if_neg (by omega)]; (try (go_bits; go_simp)); (first | done | with_reducible rfl)) | (rw [if_pos (by omega)]; (try (go_bits; go_simp)); (first | done | with_reducible rfl))))); (try simp only [Act.put, List.setIfInBounds_toArray, List.set_cons_zero, List.set_cons_succ])) | ((refine sch_skip rfl rfl rfl rfl ?_); (try simp only [Act.put, List.setIfInBounds_toArray, List.set_cons_zero, List.set_cons_succ])))
                                            refine sch_nil ?_
                                            go_wp2_with fail
                                            go_meet
                                            exact HE6.out
                                    · refine ⟨rfl, fun K hK => ?_⟩
                                      go_wp2
                                      have HR7 := hide (HR1.out.made' #[.int .u32 p.src, .int .u32 p.dst, I64 p.proto, I64 p.ttl, I64 p.id, I64 p.off, .bool p.more, .slice none 0 0, I64 now, .slice none 0 0, .slice none 0 0, I64 (-1), I64 0] 1 (rcc (newR p now)) (W9.heap.size + 1) (by simp) (rfl) (by rfl) (by decide))
                                      refine hK _ _ (HS29.out _ (HR7.out.1.mono (by simp))) ?_
                                      clear hK K
                                      try simp only [Act.put, List.setIfInBounds_toArray, List.set_cons_zero, List.set_cons_succ]
                                      repeat (first | ((refine sch_y rfl rfl rfl rfl ?_; apply Exists.intro; refine ⟨?_, ?_⟩; next => (intro w' hS; (first | obtain ⟨_, rfl⟩ := hS | skip); go_simp; (try (go_bits; go_simp)); (first | done | with_reducible rfl | (rw [if_neg (by omega)]; (try (go_bits; go_simp)); (first | done | with_reducible rfl)) | (rw [if_pos (by omega)]; (try (go_bits; go_simp)); (first | done | with_reducible rfl))))); (try simp only [Act.put, List.setIfInBounds_toArray, List.set_cons_zero, List.set_cons_succ])) | ((refine sch_skip rfl rfl rfl rfl ?_); (try simp only [Act.put, List.setIfInBounds_toArray, List.set_cons_zero, List.set_cons_succ])))
                                      refine sch_e1 rfl rfl rfl rfl ?_
                                      · refine ⟨rfl, fun K hK => ?_⟩
                                        refine wp_appG (.tmp 129) (.tmp 133) 145 rfl rcolT i0 (.agg zsC.toArray) 13 144 Try.underlying145 hi0 hz0 hs0 hb0' rfl (by decide) W9 [⟨.slice (some ⟨W9.heap.size + 1, 0, none⟩) 1 1, 1, (rcc (newR p now))⟩] [] _ (.slice (some ⟨W9.heap.size, 0, none⟩) 0 0) (0) ([]) rfl HR7.out rfl base (.slice A3 n3 c3) n3 (l3.flatMap rcc) rfl (off_keep HRW3.out HR7.out.1) (rcc_one H9.out.2.2.1.cols) (by simp only [maxLen]; omega) (by omega) ?_
                                        intro v8 y8 hr
                                        have HR8 := hide hr
                                        clear hr
                                        refine hK _ _ (HS29.out _ (HR8.out.1.mono (by simp))) ?_
                                        clear hK K
                                        try simp only [Act.put, List.setIfInBounds_toArray, List.set_cons_zero, List.set_cons_succ]
                                        repeat (first | ((refine sch_y rfl rfl rfl rfl ?_; apply Exists.intro; refine ⟨?_, ?_⟩; next => (intro w' hS; (first | obtain ⟨_, rfl⟩ := hS | skip); go_simp; (try (go_bits; go_simp)); (first | done | with_reducible rfl | (rw [if_neg (by omega)]; (try (go_bits; go_simp)); (first | done | with_reducible rfl)) | (rw [if_pos (by omega)]; (try (go_bits; go_simp)); (first | done | with_reducible rfl))))); (try simp only [Act.put, List.setIfInBounds_toArray, List.set_cons_zero, List.set_cons_succ])) | ((refine sch_skip rfl rfl rfl rfl ?_); (try simp only [Act.put, List.setIfInBounds_toArray, List.set_cons_zero, List.set_cons_succ])))
                                        refine sch_e1 rfl rfl rfl rfl ?_
                                        · refine ⟨rfl, fun K hK => ?_⟩
                                          refine wp_appG (.tmp 134) (.tmp 138) 145 rfl rcolT i0 (.agg zsC.toArray) 13 144 Try.underlying145 hi0 hz0 hs0 hb0' rfl (by decide) W9 [⟨.slice (some ⟨W9.heap.size + 1, 0, none⟩) 1 1, 1, (rcc (newR p now))⟩] [] _ (v8) (0 + n3) ([] ++ (l3.flatMap rcc)) rfl HR8.out rfl _ (.slice (some ⟨W9.heap.size + 1, 0, none⟩) 1 1) 1 (rcc (newR p now)) rfl (HR8.out.get 0 rfl) (newR_one p now) (by simp only [maxLen]; omega) (by omega) ?_
                                          intro v9 y9 hr
                                          have HR9 := hide hr
                                          clear hr
                                          refine hK _ _ (HS29.out _ (HR9.out.1.mono (by simp))) ?_
                                          clear hK K
                                          try simp only [Act.put, List.setIfInBounds_toArray, List.set_cons_zero, List.set_cons_succ]
                                          repeat (first | ((refine sch_y rfl rfl rfl rfl ?_; apply Exists.intro; refine ⟨?_, ?_⟩; next => (intro w' hS; (first | obtain ⟨_, rfl⟩ := hS | skip); go_simp; (try (go_bits; go_simp)); (first | done | with_reducible rfl | (rw [if_neg (by omega)]; (try (go_bits; go_simp)); (first | done | with_reducible rfl)) | (rw [if_pos (by omega)]; (try (go_bits; go_simp)); (first | done | with_reducible rfl))))); (try simp only [Act.put, List.setIfInBounds_toArray, List.set_cons_zero, List.set_cons_succ])) | ((refine sch_skip rfl rfl rfl rfl ?_); (try simp only [Act.put, List.setIfInBounds_toArray, List.set_cons_zero, List.set_cons_succ])))
                                          refine sch_e1 rfl rfl rfl rfl ?_
                                          · refine ⟨rfl, fun K hK => ?_⟩
                                            have hrw10 := HR9.out.get 1 rfl
                                            simp only at hrw10
                                            rw [Nat.zero_add] at hrw10
                                            have hme10 := HR9.out.1.blk H9.out.2.2.1.me (by simp)
                                            obtain ⟨A10, c10, hv10⟩ := off_shape hrw10
                                            have HW10 := hide (And.intro hrw10 HR9.out.1)
                                            subst hv10
                                            have q10 := hme10.cell (i := 0) rfl
                                            have z10 := hme10.frozen 0
                                            have lq10 := hme10.lt
                                            clear hrw10 hme10
                                            go_wp2
                                            have HE10 := hide (rbeg_end (p := p) (n := n3) (l3 := l3) HW10.out.1 (by omega) (by rw [List.flatMap_append]; simp) HW10.out.2 H9.out.2.2.1.me H9.out.2.2.2)
                                            obtain ⟨v9x, hr9x, hm9x, ho9x, hn9x⟩ := HE10.out
                                            refine hK _ _ (HS29.out _ ho9x) ?_
                                            clear hr9x hm9x ho9x hn9x
                                            clear hK K
                                            try simp only [Act.put, List.setIfInBounds_toArray, List.set_cons_zero, List.set_cons_succ]
                                            repeat (first | ((refine sch_y rfl rfl rfl rfl ?_; apply Exists.intro; refine ⟨?_, ?_⟩; next => (intro w' hS; (first | obtain ⟨_, rfl⟩ := hS | skip); go_simp; (try (go_bits; go_simp)); (first | done | with_reducible rfl | (rw [if_neg (by omega)]; (try (go_bits; go_simp)); (first | done | with_reducible rfl)) | (rw [if_pos (by omega)]; (try (go_bits; go_simp)); (first | done | with_reducible rfl))))); (try simp only [Act.put, List.setIfInBounds_toArray, List.set_cons_zero, List.set_cons_succ])) | ((refine sch_skip rfl rfl rfl rfl ?_); (try simp only [Act.put, List.setIfInBounds_toArray, List.set_cons_zero, List.set_cons_succ])))
                                            refine sch_nil ?_
                                            go_wp2_with fail
                                            go_meet
                                            exact HE10.out
                                  · refine ⟨rfl, fun K hK => ?_⟩
                                    go_wp2
                                    have HR11 := hide (HR1.out.made' #[.int .u32 p.src, .int .u32 p.dst, I64 p.proto, I64 p.ttl, I64 p.id, I64 p.off, .bool p.more, .slice none 0 0, I64 now, .slice none 0 0, .slice none 0 0, I64 (-1), I64 0] 1 (rcc (newR p now)) (W9.heap.size + 1) (by simp) (rfl) (by rfl) (by decide))
                                    refine hK _ _ (HS29.out _ (HR11.out.1.mono (by simp))) ?_
                                    clear hK K
                                    try simp only [Act.put, List.setIfInBounds_toArray, List.set_cons_zero, List.set_cons_succ]
                                    repeat (first | ((refine sch_y rfl rfl rfl rfl ?_; apply Exists.intro; refine ⟨?_, ?_⟩; next => (intro w' hS; (first | obtain ⟨_, rfl⟩ := hS | skip); go_simp; (try (go_bits; go_simp)); (first | done | with_reducible rfl | (rw [if_neg (by omega)]; (try (go_bits; go_simp)); (first | done | with_reducible rfl)) | (rw [if_pos (by omega)]; (try (go_bits; go_simp)); (first | done | with_reducible rfl))))); (try simp only [Act.put, List.setIfInBounds_toArray, List.set_cons_zero, List.set_cons_succ])) | ((refine sch_skip rfl rfl rfl rfl ?_); (try simp only [Act.put, List.setIfInBounds_toArray, List.set_cons_zero, List.set_cons_succ])))
                                    refine sch_e1 rfl rfl rfl rfl ?_
                                    · refine ⟨rfl, fun K hK => ?_⟩
                                      have q12 : (((W9.alloc (.cells #[] rcolT)).alloc (.cells #[.int .u32 p.src, .int .u32 p.dst, I64 p.proto, I64 p.ttl, I64 p.id, I64 p.off, .bool p.more, .slice none 0 0, I64 now, .slice none 0 0, .slice none 0 0, I64 (-1), I64 0] rcolT)).drew).cell? ⟨r, 0, none⟩ = some (.slice A3 n3 c3) := (HR11.out.1.blk H9.out.2.2.1.me (by simp)).cell (i := 0) rfl
                                      go_wp2
                                      refine hK _ _ (HS29.out _ (HR11.out.1.mono (by simp))) ?_
                                      clear q12
                                      clear hK K
                                      try simp only [Act.put, List.setIfInBounds_toArray, List.set_cons_zero, List.set_cons_succ]
                                      repeat (first | ((refine sch_y rfl rfl rfl rfl ?_; apply Exists.intro; refine ⟨?_, ?_⟩; next => (intro w' hS; (first | obtain ⟨_, rfl⟩ := hS | skip); go_simp; (try (go_bits; go_simp)); (first | done | with_reducible rfl | (rw [if_neg (by omega)]; (try (go_bits; go_simp)); (first | done | with_reducible rfl)) | (rw [if_pos (by omega)]; (try (go_bits; go_simp)); (first | done | with_reducible rfl))))); (try simp only [Act.put, List.setIfInBounds_toArray, List.set_cons_zero, List.set_cons_succ])) | ((refine sch_skip rfl rfl rfl rfl ?_); (try simp only [Act.put, List.setIfInBounds_toArray, List.set_cons_zero, List.set_cons_succ])))
                                      refine sch_e1 rfl rfl rfl rfl ?_
                                      · refine ⟨rfl, fun K hK => ?_⟩
                                        refine wp_appG (.tmp 129) (.tmp 133) 145 rfl rcolT i0 (.agg zsC.toArray) 13 144 Try.underlying145 hi0 hz0 hs0 hb0' rfl (by decide) W9 [⟨.slice (some ⟨W9.heap.size + 1, 0, none⟩) 1 1, 1, (rcc (newR p now))⟩] [] _ (.slice (some ⟨W9.heap.size, 0, none⟩) 0 0) (0) ([]) rfl HR11.out rfl base (.slice A3 n3 c3) n3 (l3.flatMap rcc) rfl (off_keep HRW3.out HR11.out.1) (rcc_one H9.out.2.2.1.cols) (by simp only [maxLen]; omega) (by omega) ?_
                                        intro v13 y13 hr
                                        have HR13 := hide hr
                                        clear hr
                                        refine hK _ _ (HS29.out _ (HR13.out.1.mono (by simp))) ?_
                                        clear hK K
                                        try simp only [Act.put, List.setIfInBounds_toArray, List.set_cons_zero, List.set_cons_succ]
                                        repeat (first | ((refine sch_y rfl rfl rfl rfl ?_; apply Exists.intro; refine ⟨?_, ?_⟩; next => (intro w' hS; (first | obtain ⟨_, rfl⟩ := hS | skip); go_simp; (try (go_bits; go_simp)); (first | done | with_reducible rfl | (rw [if_neg (by omega)]; (try (go_bits; go_simp)); (first | done | with_reducible rfl)) | (rw [if_pos (by omega)]; (try (go_bits; go_simp)); (first | done | with_reducible rfl))))); (try simp only [Act.put, List.setIfInBounds_toArray, List.set_cons_zero, List.set_cons_succ])) | ((refine sch_skip rfl rfl rfl rfl ?_); (try simp only [Act.put, List.setIfInBounds_toArray, List.set_cons_zero, List.set_cons_succ])))
                                        refine sch_e1 rfl rfl rfl rfl ?_
                                        · refine ⟨rfl, fun K hK => ?_⟩
                                          refine wp_appG (.tmp 134) (.tmp 138) 145 rfl rcolT i0 (.agg zsC.toArray) 13 144 Try.underlying145 hi0 hz0 hs0 hb0' rfl (by decide) W9 [⟨.slice (some ⟨W9.heap.size + 1, 0, none⟩) 1 1, 1, (rcc (newR p now))⟩] [] _ (v13) (0 + n3) ([] ++ (l3.flatMap rcc)) rfl HR13.out rfl _ (.slice (some ⟨W9.heap.size + 1, 0, none⟩) 1 1) 1 (rcc (newR p now)) rfl (HR13.out.get 0 rfl) (newR_one p now) (by simp only [maxLen]; omega) (by omega) ?_
                                          intro v14 y14 hr
                                          have HR14 := hide hr
                                          clear hr
                                          refine hK _ _ (HS29.out _ (HR14.out.1.mono (by simp))) ?_
                                          clear hK K
                                          try simp only [Act.put, List.setIfInBounds_toArray, List.set_cons_zero, List.set_cons_succ]
                                          repeat (first | ((refine sch_y rfl rfl rfl rfl ?_; apply Exists.intro; refine ⟨?_, ?_⟩; next => (intro w' hS; (first | obtain ⟨_, rfl⟩ := hS | skip); go_simp; (try (go_bits; go_simp)); (first | done | with_reducible rfl | (rw [if_neg (by omega)]; (try (go_bits; go_simp)); (first | done | with_reducible rfl)) | (rw [if_pos (by omega)]; (try (go_bits; go_simp)); (first | done | with_reducible rfl))))); (try simp only [Act.put, List.setIfInBounds_toArray, List.set_cons_zero, List.set_cons_succ])) | ((refine sch_skip rfl rfl rfl rfl ?_); (try simp only [Act.put, List.setIfInBounds_toArray, List.set_cons_zero, List.set_cons_succ])))
                                          refine sch_e1 rfl rfl rfl rfl ?_
                                          · refine ⟨rfl, fun K hK => ?_⟩
                                            have hrw15 := HR14.out.get 1 rfl
                                            simp only at hrw15
                                            rw [Nat.zero_add] at hrw15
                                            have hme15 := HR14.out.1.blk H9.out.2.2.1.me (by simp)
                                            obtain ⟨A15, c15, hv15⟩ := off_shape hrw15
                                            have HW15 := hide (And.intro hrw15 HR14.out.1)
                                            subst hv15
                                            have q15 := hme15.cell (i := 0) rfl
                                            have z15 := hme15.frozen 0
                                            have lq15 := hme15.lt
                                            clear hrw15 hme15
                                            go_wp2
                                            have HE15 := hide (rbeg_end (p := p) (n := n3) (l3 := l3) HW15.out.1 (by omega) (by rw [List.flatMap_append]; simp) HW15.out.2 H9.out.2.2.1.me H9.out.2.2.2)
                                            obtain ⟨v9x, hr9x, hm9x, ho9x, hn9x⟩ := HE15.out
                                            refine hK _ _ (HS29.out _ ho9x) ?_
                                            clear hr9x hm9x ho9x hn9x
                                            clear hK K
                                            try simp only [Act.put, List.setIfInBounds_toArray, List.set_cons_zero, List.set_cons_succ]
                                            repeat (first | ((refine sch_y rfl rfl rfl rfl ?_; apply Exists.intro; refine ⟨?_, ?_⟩; next => (intro w' hS; (first | obtain ⟨_, rfl⟩ := hS | skip); go_simp; (try (go_bits; go_simp)); (first | done | with_reducible rfl | (rw [if_neg (by omega)]; (try (go_bits; go_simp)); (first | done | with_reducible rfl)) | (rw [if_pos (by omega)]; (try (go_bits; go_simp)); (first | done | with_reducible rfl))))); (try simp only [Act.put, List.setIfInBounds_toArray, List.set_cons_zero, List.set_cons_succ])) | ((refine sch_skip rfl rfl rfl rfl ?_); (try simp only [Act.put, List.setIfInBounds_toArray, List.set_cons_zero, List.set_cons_succ])))
                                            refine sch_nil ?_
                                            go_wp2_with fail
                                            go_meet
                                            exact HE15.out
                                · refine ⟨rfl, fun K hK => ?_⟩
                                  have q16 : (W9.drew).cell? ⟨r, 0, none⟩ = some (.slice A3 n3 c3) := (HR0.out.1.blk H9.out.2.2.1.me (by simp)).cell (i := 0) rfl
                                  go_wp2
                                  refine hK _ _ (HS29.out _ (HR0.out.1.mono (by simp))) ?_
                                  clear q16
                                  clear hK K
                                  try simp only [Act.put, List.setIfInBounds_toArray, List.set_cons_zero, List.set_cons_succ]
                                  repeat (first | ((refine sch_y rfl rfl rfl rfl ?_; apply Exists.intro; refine ⟨?_, ?_⟩; next => (intro w' hS; (first | obtain ⟨_, rfl⟩ := hS | skip); go_simp; (try (go_bits; go_simp)); (first | done | with_reducible rfl | (rw [if_neg (by omega)]; (try (go_bits; go_simp)); (first | done | with_reducible rfl)) | (rw [if_pos (by omega)]; (try (go_bits; go_simp)); (first | done | with_reducible rfl))))); (try simp only [Act.put, List.setIfInBounds_toArray, List.set_cons_zero, List.set_cons_succ])) | ((refine sch_skip rfl rfl rfl rfl ?_); (try simp only [Act.put, List.setIfInBounds_toArray, List.set_cons_zero, List.set_cons_succ])))
                                  refine sch_e2 rfl rfl rfl rfl rfl rfl ?_ ?_
                                  · refine ⟨rfl, fun K hK => ?_⟩
                                    go_wp2
                                    have HR17 := hide (HR0.out.made' #[] 0 [] (W9.heap.size) (by simp) (rfl) (by rfl) (by decide))
                                    refine hK _ _ (HS29.out _ (HR17.out.1.mono (by simp))) ?_
                                    clear hK K
                                    try simp only [Act.put, List.setIfInBounds_toArray, List.set_cons_zero, List.set_cons_succ]
                                    repeat (first | ((refine sch_y rfl rfl rfl rfl ?_; apply Exists.intro; refine ⟨?_, ?_⟩; next => (intro w' hS; (first | obtain ⟨_, rfl⟩ := hS | skip); go_simp; (try (go_bits; go_simp)); (first | done | with_reducible rfl | (rw [if_neg (by omega)]; (try (go_bits; go_simp)); (first | done | with_reducible rfl)) | (rw [if_pos (by omega)]; (try (go_bits; go_simp)); (first | done | with_reducible rfl))))); (try simp only [Act.put, List.setIfInBounds_toArray, List.set_cons_zero, List.set_cons_succ])) | ((refine sch_skip rfl rfl rfl rfl ?_); (try simp only [Act.put, List.setIfInBounds_toArray, List.set_cons_zero, List.set_cons_succ])))
                                    refine sch_e2 rfl rfl rfl rfl rfl rfl ?_ ?_
                                    · refine ⟨rfl, fun K hK => ?_⟩
                                      refine wp_appG (.tmp 129) (.tmp 133) 145 rfl rcolT i0 (.agg zsC.toArray) 13 144 Try.underlying145 hi0 hz0 hs0 hb0' rfl (by decide) W9 [] [] _ (.slice (some ⟨W9.heap.size, 0, none⟩) 0 0) (0) ([]) rfl HR17.out rfl base (.slice A3 n3 c3) n3 (l3.flatMap rcc) rfl (off_keep HRW3.out HR17.out.1) (rcc_one H9.out.2.2.1.cols) (by simp only [maxLen]; omega) (by omega) ?_
                                      intro v18 y18 hr
                                      have HR18 := hide hr
                                      clear hr
                                      refine hK _ _ (HS29.out _ (HR18.out.1.mono (by simp))) ?_
                                      clear hK K
                                      try simp only [Act.put, List.setIfInBounds_toArray, List.set_cons_zero, List.set_cons_succ]
                                      repeat (first | ((refine sch_y rfl rfl rfl rfl ?_; apply Exists.intro; refine ⟨?_, ?_⟩; next => (intro w' hS; (first | obtain ⟨_, rfl⟩ := hS | skip); go_simp; (try (go_bits; go_simp)); (first | done | with_reducible rfl | (rw [if_neg (by omega)]; (try (go_bits; go_simp)); (first | done | with_reducible rfl)) | (rw [if_pos (by omega)]; (try (go_bits; go_simp)); (first | done | with_reducible rfl))))); (try simp only [Act.put, List.setIfInBounds_toArray, List.set_cons_zero, List.set_cons_succ])) | ((refine sch_skip rfl rfl rfl rfl ?_); (try simp only [Act.put, List.setIfInBounds_toArray, List.set_cons_zero, List.set_cons_succ])))
                                      refine sch_e1 rfl rfl rfl rfl ?_
                                      · refine ⟨rfl, fun K hK => ?_⟩
                                        go_wp2
                                        have HR19 := hide (HR18.out.made' #[.int .u32 p.src, .int .u32 p.dst, I64 p.proto, I64 p.ttl, I64 p.id, I64 p.off, .bool p.more, .slice none 0 0, I64 now, .slice none 0 0, .slice none 0 0, I64 (-1), I64 0] 1 (rcc (newR p now)) (y18.heap.size) (by simp) (rfl) (by rfl) (by decide))
                                        refine hK _ _ (HS29.out _ (HR19.out.1.mono (by simp))) ?_
                                        clear hK K
                                        try simp only [Act.put, List.setIfInBounds_toArray, List.set_cons_zero, List.set_cons_succ]
                                        repeat (first | ((refine sch_y rfl rfl rfl rfl ?_; apply Exists.intro; refine ⟨?_, ?_⟩; next => (intro w' hS; (first | obtain ⟨_, rfl⟩ := hS | skip); go_simp; (try (go_bits; go_simp)); (first | done | with_reducible rfl | (rw [if_neg (by omega)]; (try (go_bits; go_simp)); (first | done | with_reducible rfl)) | (rw [if_pos (by omega)]; (try (go_bits; go_simp)); (first | done | with_reducible rfl))))); (try simp only [Act.put, List.setIfInBounds_toArray, List.set_cons_zero, List.set_cons_succ])) | ((refine sch_skip rfl rfl rfl rfl ?_); (try simp only [Act.put, List.setIfInBounds_toArray, List.set_cons_zero, List.set_cons_succ])))
                                        refine sch_e1 rfl rfl rfl rfl ?_
                                        · refine ⟨rfl, fun K hK => ?_⟩
                                          refine wp_appG (.tmp 134) (.tmp 138) 145 rfl rcolT i0 (.agg zsC.toArray) 13 144 Try.underlying145 hi0 hz0 hs0 hb0' rfl (by decide) W9 [⟨.slice (some ⟨y18.heap.size, 0, none⟩) 1 1, 1, (rcc (newR p now))⟩] [] _ (v18) (0 + n3) ([] ++ (l3.flatMap rcc)) rfl HR19.out rfl _ (.slice (some ⟨y18.heap.size, 0, none⟩) 1 1) 1 (rcc (newR p now)) rfl (HR19.out.get 0 rfl) (newR_one p now) (by simp only [maxLen]; omega) (by omega) ?_
                                          intro v20 y20 hr
                                          have HR20 := hide hr
                                          clear hr
                                          refine hK _ _ (HS29.out _ (HR20.out.1.mono (by simp))) ?_
                                          clear hK K
                                          try simp only [Act.put, List.setIfInBounds_toArray, List.set_cons_zero, List.set_cons_succ]
                                          repeat (first | ((refine sch_y rfl rfl rfl rfl ?_; apply Exists.intro; refine ⟨?_, ?_⟩; next => (intro w' hS; (first | obtain ⟨_, rfl⟩ := hS | skip); go_simp; (try (go_bits; go_simp)); (first | done | with_reducible rfl | (rw [if_neg (by omega)]; (try (go_bits; go_simp)); (first | done | with_reducible rfl)) | (rw [if_pos (by omega)]; (try (go_bits; go_simp)); (first | done | with_reducible rfl))))); (try simp only [Act.put, List.setIfInBounds_toArray, List.set_cons_zero, List.set_cons_succ])) | ((refine sch_skip rfl rfl rfl rfl ?_); (try simp only [Act.put, List.setIfInBounds_toArray, List.set_cons_zero, List.set_cons_succ])))
                                          refine sch_e1 rfl rfl rfl rfl ?_
                                          · refine ⟨rfl, fun K hK => ?_⟩
                                            have hrw21 := HR20.out.get 1 rfl
                                            simp only at hrw21
                                            rw [Nat.zero_add] at hrw21
                                            have hme21 := HR20.out.1.blk H9.out.2.2.1.me (by simp)
                                            obtain ⟨A21, c21, hv21⟩ := off_shape hrw21
                                            have HW21 := hide (And.intro hrw21 HR20.out.1)
                                            subst hv21
                                            have q21 := hme21.cell (i := 0) rfl
                                            have z21 := hme21.frozen 0
                                            have lq21 := hme21.lt
                                            clear hrw21 hme21
                                            go_wp2
                                            have HE21 := hide (rbeg_end (p := p) (n := n3) (l3 := l3) HW21.out.1 (by omega) (by rw [List.flatMap_append]; simp) HW21.out.2 H9.out.2.2.1.me H9.out.2.2.2)
                                            obtain ⟨v9x, hr9x, hm9x, ho9x, hn9x⟩ := HE21.out
                                            refine hK _ _ (HS29.out _ ho9x) ?_
                                            clear hr9x hm9x ho9x hn9x
                                            clear hK K
                                            try simp only [Act.put, List.setIfInBounds_toArray, List.set_cons_zero, List.set_cons_succ]
                                            repeat (first | ((refine sch_y rfl rfl rfl rfl ?_; apply Exists.intro; refine ⟨?_, ?_⟩; next => (intro w' hS; (first | obtain ⟨_, rfl⟩ := hS | skip); go_simp; (try (go_bits; go_simp)); (first | done | with_reducible rfl | (rw [if_neg (by omega)]; (try (go_bits; go_simp)); (first | done | with_reducible rfl)) | (rw [if_pos (by omega)]; (try (go_bits; go_simp)); (first | done | with_reducible rfl))))); (try simp only [Act.put, List.setIfInBounds_toArray, List.set_cons_zero, List.set_cons_succ])) | ((refine sch_skip rfl rfl rfl rfl ?_); (try simp only [Act.put, List.setIfInBounds_toArray, List.set_cons_zero, List.set_cons_succ])))
                                            refine sch_nil ?_
                                            go_wp2_with fail
                                            go_meet
                                            exact HE21.out
                                    · refine ⟨rfl, fun K hK => ?_⟩
                                      go_wp2
                                      have HR22 := hide (HR17.out.made' #[.int .u32 p.src, .int .u32 p.dst, I64 p.proto, I64 p.ttl, I64 p.id, I64 p.off, .bool p.more, .slice none 0 0, I64 now, .slice none 0 0, .slice none 0 0, I64 (-1), I64 0] 1 (rcc (newR p now)) (W9.heap.size + 1) (by simp) (rfl) (by rfl) (by decide))
                                      refine hK _ _ (HS29.out _ (HR22.out.1.mono (by simp))) ?_
                                      clear hK K
                                      try simp only [Act.put, List.setIfInBounds_toArray, List.set_cons_zero, List.set_cons_succ]
                                      repeat (first | ((refine sch_y rfl rfl rfl rfl ?_; apply Exists.intro; refine ⟨?_, ?_⟩; next => (intro w' hS; (first | obtain ⟨_, rfl⟩ := hS | skip); go_simp; (try (go_bits; go_simp)); (first | done | with_reducible rfl | (rw [if_neg (by omega)]; (try (go_bits; go_simp)); (first | done | with_reducible rfl)) | (rw [if_pos (by omega)]; (try (go_bits; go_simp)); (first | done | with_reducible rfl))))); (try simp only [Act.put, List.setIfInBounds_toArray, List.set_cons_zero, List.set_cons_succ])) | ((refine sch_skip rfl rfl rfl rfl ?_); (try simp only [Act.put, List.setIfInBounds_toArray, List.set_cons_zero, List.set_cons_succ])))
                                      refine sch_e1 rfl rfl rfl rfl ?_
                                      · refine ⟨rfl, fun K hK => ?_⟩
                                        refine wp_appG (.tmp 129) (.tmp 133) 145 rfl rcolT i0 (.agg zsC.toArray) 13 144 Try.underlying145 hi0 hz0 hs0 hb0' rfl (by decide) W9 [⟨.slice (some ⟨W9.heap.size + 1, 0, none⟩) 1 1, 1, (rcc (newR p now))⟩] [] _ (.slice (some ⟨W9.heap.size, 0, none⟩) 0 0) (0) ([]) rfl HR22.out rfl base (.slice A3 n3 c3) n3 (l3.flatMap rcc) rfl (off_keep HRW3.out HR22.out.1) (rcc_one H9.out.2.2.1.cols) (by simp only [maxLen]; omega) (by omega) ?_
                                        intro v23 y23 hr
                                        have HR23 := hide hr
                                        clear hr
                                        refine hK _ _ (HS29.out _ (HR23.out.1.mono (by simp))) ?_
                                        clear hK K
                                        try simp only [Act.put, List.setIfInBounds_toArray, List.set_cons_zero, List.set_cons_succ]
                                        repeat (first | ((refine sch_y rfl rfl rfl rfl ?_; apply Exists.intro; refine ⟨?_, ?_⟩; next => (intro w' hS; (first | obtain ⟨_, rfl⟩ := hS | skip); go_simp; (try (go_bits; go_simp)); (first | done | with_reducible rfl | (rw [if_neg (by omega)]; (try (go_bits; go_simp)); (first | done | with_reducible rfl)) | (rw [if_pos (by omega)]; (try (go_bits; go_simp)); (first | done | with_reducible rfl))))); (try simp only [Act.put, List.setIfInBounds_toArray, List.set_cons_zero, List.set_cons_succ])) | ((refine sch_skip rfl rfl rfl rfl ?_); (try simp only [Act.put, List.setIfInBounds_toArray, List.set_cons_zero, List.set_cons_succ])))
                                        refine sch_e1 rfl rfl rfl rfl ?_
                                        · refine ⟨rfl, fun K hK => ?_⟩
                                          refine wp_appG (.tmp 134) (.tmp 138) 145 rfl rcolT i0 (.agg zsC.toArray) 13 144 Try.underlying145 hi0 hz0 hs0 hb0' rfl (by decide) W9 [⟨.slice (some ⟨W9.heap.size + 1, 0, none⟩) 1 1, 1, (rcc (newR p now))⟩] [] _ (v23) (0 + n3) ([] ++ (l3.flatMap rcc)) rfl HR23.out rfl _ (.slice (some ⟨W9.heap.size + 1, 0, none⟩) 1 1) 1 (rcc (newR p now)) rfl (HR23.out.get 0 rfl) (newR_one p now) (by simp only [maxLen]; omega) (by omega) ?_
                                          intro v24 y24 hr
                                          have HR24 := hide hr
                                          clear hr
                                          refine hK _ _ (HS29.out _ (HR24.out.1.mono (by simp))) ?_
                                          clear hK K
                                          try simp only [Act.put, List.setIfInBounds_toArray, List.set_cons_zero, List.set_cons_succ]
                                          repeat (first | ((refine sch_y rfl rfl rfl rfl ?_; apply Exists.intro; refine ⟨?_, ?_⟩; next => (intro w' hS; (first | obtain ⟨_, rfl⟩ := hS | skip); go_simp; (try (go_bits; go_simp)); (first | done | with_reducible rfl | (rw [if_neg (by omega)]; (try (go_bits; go_simp)); (first | done | with_reducible rfl)) | (rw [if_pos (by omega)]; (try (go_bits; go_simp)); (first | done | with_reducible rfl))))); (try simp only [Act.put, List.setIfInBounds_toArray, List.set_cons_zero, List.set_cons_succ])) | ((refine sch_skip rfl rfl rfl rfl ?_); (try simp only [Act.put, List.setIfInBounds_toArray, List.set_cons_zero, List.set_cons_succ])))
                                          refine sch_e1 rfl rfl rfl rfl ?_
                                          · refine ⟨rfl, fun K hK => ?_⟩
                                            have hrw25 := HR24.out.get 1 rfl
                                            simp only at hrw25
                                            rw [Nat.zero_add] at hrw25
                                            have hme25 := HR24.out.1.blk H9.out.2.2.1.me (by simp)
                                            obtain ⟨A25, c25, hv25⟩ := off_shape hrw25
                                            have HW25 := hide (And.intro hrw25 HR24.out.1)
                                            subst hv25
                                            have q25 := hme25.cell (i := 0) rfl
                                            have z25 := hme25.frozen 0
                                            have lq25 := hme25.lt
                                            clear hrw25 hme25
                                            go_wp2
                                            have HE25 := hide (rbeg_end (p := p) (n := n3) (l3 := l3) HW25.out.1 (by omega) (by rw [List.flatMap_append]; simp) HW25.out.2 H9.out.2.2.1.me H9.out.2.2.2)
                                            obtain ⟨v9x, hr9x, hm9x, ho9x, hn9x⟩ := HE25.out
                                            refine hK _ _ (HS29.out _ ho9x) ?_
                                            clear hr9x hm9x ho9x hn9x
                                            clear hK K
                                            try simp only [Act.put, List.setIfInBounds_toArray, List.set_cons_zero, List.set_cons_succ]
                                            repeat (first | ((refine sch_y rfl rfl rfl rfl ?_; apply Exists.intro; refine ⟨?_, ?_⟩; next => (intro w' hS; (first | obtain ⟨_, rfl⟩ := hS | skip); go_simp; (try (go_bits; go_simp)); (first | done | with_reducible rfl | (rw [if_neg (by omega)]; (try (go_bits; go_simp)); (first | done | with_reducible rfl)) | (rw [if_pos (by omega)]; (try (go_bits; go_simp)); (first | done | with_reducible rfl))))); (try simp only [Act.put, List.setIfInBounds_toArray, List.set_cons_zero, List.set_cons_succ])) | ((refine sch_skip rfl rfl rfl rfl ?_); (try simp only [Act.put, List.setIfInBounds_toArray, List.set_cons_zero, List.set_cons_succ])))
                                            refine sch_nil ?_
                                            go_wp2_with fail
                                            go_meet
                                            exact HE25.out
                                  · refine ⟨rfl, fun K hK => ?_⟩
                                    go_wp2
                                    have HR26 := hide (HR0.out.made' #[.int .u32 p.src, .int .u32 p.dst, I64 p.proto, I64 p.ttl, I64 p.id, I64 p.off, .bool p.more, .slice none 0 0, I64 now, .slice none 0 0, .slice none 0 0, I64 (-1), I64 0] 1 (rcc (newR p now)) (W9.heap.size) (by simp) (rfl) (by rfl) (by decide))
                                    refine hK _ _ (HS29.out _ (HR26.out.1.mono (by simp))) ?_
                                    clear hK K
                                    try simp only [Act.put, List.setIfInBounds_toArray, List.set_cons_zero, List.set_cons_succ]
                                    repeat (first | ((refine sch_y rfl rfl rfl rfl ?_; apply Exists.intro; refine ⟨?_, ?_⟩; next => (intro w' hS; (first | obtain ⟨_, rfl⟩ := hS | skip); go_simp; (try (go_bits; go_simp)); (first | done | with_reducible rfl | (rw [if_neg (by omega)]; (try (go_bits; go_simp)); (first | done | with_reducible rfl)) | (rw [if_pos (by omega)]; (try (go_bits; go_simp)); (first | done | with_reducible rfl))))); (try simp only [Act.put, List.setIfInBounds_toArray, List.set_cons_zero, List.set_cons_succ])) | ((refine sch_skip rfl rfl rfl rfl ?_); (try simp only [Act.put, List.setIfInBounds_toArray, List.set_cons_zero, List.set_cons_succ])))
                                    refine sch_e1 rfl rfl rfl rfl ?_
                                    · refine ⟨rfl, fun K hK => ?_⟩
                                      go_wp2
                                      have HR27 := hide (HR26.out.made' #[] 0 [] (W9.heap.size + 1) (by simp) (rfl) (by rfl) (by decide))
                                      refine hK _ _ (HS29.out _ (HR27.out.1.mono (by simp))) ?_
                                      clear hK K
                                      try simp only [Act.put, List.setIfInBounds_toArray, List.set_cons_zero, List.set_cons_succ]
                                      repeat (first | ((refine sch_y rfl rfl rfl rfl ?_; apply Exists.intro; refine ⟨?_, ?_⟩; next => (intro w' hS; (first | obtain ⟨_, rfl⟩ := hS | skip); go_simp; (try (go_bits; go_simp)); (first | done | with_reducible rfl | (rw [if_neg (by omega)]; (try (go_bits; go_simp)); (first | done | with_reducible rfl)) | (rw [if_pos (by omega)]; (try (go_bits; go_simp)); (first | done | with_reducible rfl))))); (try simp only [Act.put, List.setIfInBounds_toArray, List.set_cons_zero, List.set_cons_succ])) | ((refine sch_skip rfl rfl rfl rfl ?_); (try simp only [Act.put, List.setIfInBounds_toArray, List.set_cons_zero, List.set_cons_succ])))
                                      refine sch_e1 rfl rfl rfl rfl ?_
                                      · refine ⟨rfl, fun K hK => ?_⟩
                                        refine wp_appG (.tmp 129) (.tmp 133) 145 rfl rcolT i0 (.agg zsC.toArray) 13 144 Try.underlying145 hi0 hz0 hs0 hb0' rfl (by decide) W9 [] [⟨.slice (some ⟨W9.heap.size, 0, none⟩) 1 1, 1, (rcc (newR p now))⟩] _ (.slice (some ⟨W9.heap.size + 1, 0, none⟩) 0 0) (0) ([]) rfl HR27.out rfl base (.slice A3 n3 c3) n3 (l3.flatMap rcc) rfl (off_keep HRW3.out HR27.out.1) (rcc_one H9.out.2.2.1.cols) (by simp only [maxLen]; omega) (by omega) ?_
                                        intro v28 y28 hr
                                        have HR28 := hide hr
                                        clear hr
                                        refine hK _ _ (HS29.out _ (HR28.out.1.mono (by simp))) ?_
                                        clear hK K
                                        try simp only [Act.put, List.setIfInBounds_toArray, List.set_cons_zero, List.set_cons_succ]
                                        repeat (first | ((refine sch_y rfl rfl rfl rfl ?_; apply Exists.intro; refine ⟨?_, ?_⟩; next => (intro w' hS; (first | obtain ⟨_, rfl⟩ := hS | skip); go_simp; (try (go_bits; go_simp)); (first | done | with_reducible rfl | (rw [if_neg (by omega)]; (try (go_bits; go_simp)); (first | done | with_reducible rfl)) | (rw [if_pos (by omega)]; (try (go_bits; go_simp)); (first | done | with_reducible rfl))))); (try simp only [Act.put, List.setIfInBounds_toArray, List.set_cons_zero, List.set_cons_succ])) | ((refine sch_skip rfl rfl rfl rfl ?_); (try simp only [Act.put, List.setIfInBounds_toArray, List.set_cons_zero, List.set_cons_succ])))
                                        refine sch_e1 rfl rfl rfl rfl ?_
                                        · refine ⟨rfl, fun K hK => ?_⟩
                                          refine wp_appG (.tmp 134) (.tmp 138) 145 rfl rcolT i0 (.agg zsC.toArray) 13 144 Try.underlying145 hi0 hz0 hs0 hb0' rfl (by decide) W9 [] [⟨.slice (some ⟨W9.heap.size, 0, none⟩) 1 1, 1, (rcc (newR p now))⟩] _ (v28) (0 + n3) ([] ++ (l3.flatMap rcc)) rfl HR28.out rfl _ (.slice (some ⟨W9.heap.size, 0, none⟩) 1 1) 1 (rcc (newR p now)) rfl (HR28.out.get 1 rfl) (newR_one p now) (by simp only [maxLen]; omega) (by omega) ?_
                                          intro v29 y29 hr
                                          have HR29 := hide hr
                                          clear hr
                                          refine hK _ _ (HS29.out _ (HR29.out.1.mono (by simp))) ?_
                                          clear hK K
                                          try simp only [Act.put, List.setIfInBounds_toArray, List.set_cons_zero, List.set_cons_succ]
                                          repeat (first | ((refine sch_y rfl rfl rfl rfl ?_; apply Exists.intro; refine ⟨?_, ?_⟩; next => (intro w' hS; (first | obtain ⟨_, rfl⟩ := hS | skip); go_simp; (try (go_bits; go_simp)); (first | done | with_reducible rfl | (rw [if_neg (by omega)]; (try (go_bits; go_simp)); (first | done | with_reducible rfl)) | (rw [if_pos (by omega)]; (try (go_bits; go_simp)); (first | done | with_reducible rfl))))); (try simp only [Act.put, List.setIfInBounds_toArray, List.set_cons_zero, List.set_cons_succ])) | ((refine sch_skip rfl rfl rfl rfl ?_); (try simp only [Act.put, List.setIfInBounds_toArray, List.set_cons_zero, List.set_cons_succ])))
                                          refine sch_e1 rfl rfl rfl rfl ?_
                                          · refine ⟨rfl, fun K hK => ?_⟩
                                            have hrw30 := HR29.out.get 0 rfl
                                            simp only at hrw30
                                            rw [Nat.zero_add] at hrw30
                                            have hme30 := HR29.out.1.blk H9.out.2.2.1.me (by simp)
                                            obtain ⟨A30, c30, hv30⟩ := off_shape hrw30
                                            have HW30 := hide (And.intro hrw30 HR29.out.1)
                                            subst hv30
                                            have q30 := hme30.cell (i := 0) rfl
                                            have z30 := hme30.frozen 0
                                            have lq30 := hme30.lt
                                            clear hrw30 hme30
                                            go_wp2
                                            have HE30 := hide (rbeg_end (p := p) (n := n3) (l3 := l3) HW30.out.1 (by omega) (by rw [List.flatMap_append]; simp) HW30.out.2 H9.out.2.2.1.me H9.out.2.2.2)
                                            obtain ⟨v9x, hr9x, hm9x, ho9x, hn9x⟩ := HE30.out
                                            refine hK _ _ (HS29.out _ ho9x) ?_
                                            clear hr9x hm9x ho9x hn9x
                                            clear hK K
                                            try simp only [Act.put, List.setIfInBounds_toArray, List.set_cons_zero, List.set_cons_succ]
                                            repeat (first | ((refine sch_y rfl rfl rfl rfl ?_; apply Exists.intro; refine ⟨?_, ?_⟩; next => (intro w' hS; (first | obtain ⟨_, rfl⟩ := hS | skip); go_simp; (try (go_bits; go_simp)); (first | done | with_reducible rfl | (rw [if_neg (by omega)]; (try (go_bits; go_simp)); (first | done | with_reducible rfl)) | (rw [if_pos (by omega)]; (try (go_bits; go_simp)); (first | done | with_reducible rfl))))); (try simp only [Act.put, List.setIfInBounds_toArray, List.set_cons_zero, List.set_cons_succ])) | ((refine sch_skip rfl rfl rfl rfl ?_); (try simp only [Act.put, List.setIfInBounds_toArray, List.set_cons_zero, List.set_cons_succ])))
                                            refine sch_nil ?_
                                            go_wp2_with fail
                                            go_meet
                                            exact HE30.out
                                · refine ⟨rfl, fun K hK => ?_⟩
                                  go_wp2
                                  have HR31 := hide (HR0.out.made' #[.int .u32 p.src, .int .u32 p.dst, I64 p.proto, I64 p.ttl, I64 p.id, I64 p.off, .bool p.more, .slice none 0 0, I64 now, .slice none 0 0, .slice none 0 0, I64 (-1), I64 0] 1 (rcc (newR p now)) (W9.heap.size) (by simp) (rfl) (by rfl) (by decide))
                                  refine hK _ _ (HS29.out _ (HR31.out.1.mono (by simp))) ?_
                                  clear hK K
                                  try simp only [Act.put, List.setIfInBounds_toArray, List.set_cons_zero, List.set_cons_succ]
                                  repeat (first | ((refine sch_y rfl rfl rfl rfl ?_; apply Exists.intro; refine ⟨?_, ?_⟩; next => (intro w' hS; (first | obtain ⟨_, rfl⟩ := hS | skip); go_simp; (try (go_bits; go_simp)); (first | done | with_reducible rfl | (rw [if_neg (by omega)]; (try (go_bits; go_simp)); (first | done | with_reducible rfl)) | (rw [if_pos (by omega)]; (try (go_bits; go_simp)); (first | done | with_reducible rfl))))); (try simp only [Act.put, List.setIfInBounds_toArray, List.set_cons_zero, List.set_cons_succ])) | ((refine sch_skip rfl rfl rfl rfl ?_); (try simp only [Act.put, List.setIfInBounds_toArray, List.set_cons_zero, List.set_cons_succ])))
                                  refine sch_e2 rfl rfl rfl rfl rfl rfl ?_ ?_
                                  · refine ⟨rfl, fun K hK => ?_⟩
                                    go_wp2
                                    have HR32 := hide (HR31.out.made' #[] 0 [] (W9.heap.size + 1) (by simp) (rfl) (by rfl) (by decide))
                                    refine hK _ _ (HS29.out _ (HR32.out.1.mono (by simp))) ?_
                                    clear hK K
                                    try simp only [Act.put, List.setIfInBounds_toArray, List.set_cons_zero, List.set_cons_succ]
                                    repeat (first | ((refine sch_y rfl rfl rfl rfl ?_; apply Exists.intro; refine ⟨?_, ?_⟩; next => (intro w' hS; (first | obtain ⟨_, rfl⟩ := hS | skip); go_simp; (try (go_bits; go_simp)); (first | done | with_reducible rfl | (rw [if_neg (by omega)]; (try (go_bits; go_simp)); (first | done | with_reducible rfl)) | (rw [if_pos (by omega)]; (try (go_bits; go_simp)); (first | done | with_reducible rfl))))); (try simp only [Act.put, List.setIfInBounds_toArray, List.set_cons_zero, List.set_cons_succ])) | ((refine sch_skip rfl rfl rfl rfl ?_); (try simp only [Act.put, List.setIfInBounds_toArray, List.set_cons_zero, List.set_cons_succ])))
                                    refine sch_e1 rfl rfl rfl rfl ?_
                                    · refine ⟨rfl, fun K hK => ?_⟩
                                      have q33 : (((W9.alloc (.cells #[.int .u32 p.src, .int .u32 p.dst, I64 p.proto, I64 p.ttl, I64 p.id, I64 p.off, .bool p.more, .slice none 0 0, I64 now, .slice none 0 0, .slice none 0 0, I64 (-1), I64 0] rcolT)).alloc (.cells #[] rcolT)).drew).cell? ⟨r, 0, none⟩ = some (.slice A3 n3 c3) := (HR32.out.1.blk H9.out.2.2.1.me (by simp)).cell (i := 0) rfl
                                      go_wp2
                                      refine hK _ _ (HS29.out _ (HR32.out.1.mono (by simp))) ?_
                                      clear q33
                                      clear hK K
                                      try simp only [Act.put, List.setIfInBounds_toArray, List.set_cons_zero, List.set_cons_succ]
                                      repeat (first | ((refine sch_y rfl rfl rfl rfl ?_; apply Exists.intro; refine ⟨?_, ?_⟩; next => (intro w' hS; (first | obtain ⟨_, rfl⟩ := hS | skip); go_simp; (try (go_bits; go_simp)); (first | done | with_reducible rfl | (rw [if_neg (by omega)]; (try (go_bits; go_simp)); (first | done | with_reducible rfl)) | (rw [if_pos (by omega)]; (try (go_bits; go_simp)); (first | done | with_reducible rfl))))); (try simp only [Act.put, List.setIfInBounds_toArray, List.set_cons_zero, List.set_cons_succ])) | ((refine sch_skip rfl rfl rfl rfl ?_); (try simp only [Act.put, List.setIfInBounds_toArray, List.set_cons_zero, List.set_cons_succ])))
                                      refine sch_e1 rfl rfl rfl rfl ?_
                                      · refine ⟨rfl, fun K hK => ?_⟩
                                        refine wp_appG (.tmp 129) (.tmp 133) 145 rfl rcolT i0 (.agg zsC.toArray) 13 144 Try.underlying145 hi0 hz0 hs0 hb0' rfl (by decide) W9 [] [⟨.slice (some ⟨W9.heap.size, 0, none⟩) 1 1, 1, (rcc (newR p now))⟩] _ (.slice (some ⟨W9.heap.size + 1, 0, none⟩) 0 0) (0) ([]) rfl HR32.out rfl base (.slice A3 n3 c3) n3 (l3.flatMap rcc) rfl (off_keep HRW3.out HR32.out.1) (rcc_one H9.out.2.2.1.cols) (by simp only [maxLen]; omega) (by omega) ?_
                                        intro v34 y34 hr
                                        have HR34 := hide hr
                                        clear hr
                                        refine hK _ _ (HS29.out _ (HR34.out.1.mono (by simp))) ?_
                                        clear hK K
                                        try simp only [Act.put, List.setIfInBounds_toArray, List.set_cons_zero, List.set_cons_succ]
                                        repeat (first | ((refine sch_y rfl rfl rfl rfl ?_; apply Exists.intro; refine ⟨?_, ?_⟩; next => (intro w' hS; (first | obtain ⟨_, rfl⟩ := hS | skip); go_simp; (try (go_bits; go_simp)); (first | done | with_reducible rfl | (rw [if_neg (by omega)]; (try (go_bits; go_simp)); (first | done | with_reducible rfl)) | (rw [if_pos (by omega)]; (try (go_bits; go_simp)); (first | done | with_reducible rfl))))); (try simp only [Act.put, List.setIfInBounds_toArray, List.set_cons_zero, List.set_cons_succ])) | ((refine sch_skip rfl rfl rfl rfl ?_); (try simp only [Act.put, List.setIfInBounds_toArray, List.set_cons_zero, List.set_cons_succ])))
                                        refine sch_e1 rfl rfl rfl rfl ?_
                                        · refine ⟨rfl, fun K hK => ?_⟩
                                          refine wp_appG (.tmp 134) (.tmp 138) 145 rfl rcolT i0 (.agg zsC.toArray) 13 144 Try.underlying145 hi0 hz0 hs0 hb0' rfl (by decide) W9 [] [⟨.slice (some ⟨W9.heap.size, 0, none⟩) 1 1, 1, (rcc (newR p now))⟩] _ (v34) (0 + n3) ([] ++ (l3.flatMap rcc)) rfl HR34.out rfl _ (.slice (some ⟨W9.heap.size, 0, none⟩) 1 1) 1 (rcc (newR p now)) rfl (HR34.out.get 1 rfl) (newR_one p now) (by simp only [maxLen]; omega) (by omega) ?_
                                          intro v35 y35 hr
                                          have HR35 := hide hr
                                          clear hr
                                          refine hK _ _ (HS29.out _ (HR35.out.1.mono (by simp))) ?_
                                          clear hK K
                                          try simp only [Act.put, List.setIfInBounds_toArray, List.set_cons_zero, List.set_cons_succ]
                                          repeat (first | ((refine sch_y rfl rfl rfl rfl ?_; apply Exists.intro; refine ⟨?_, ?_⟩; next => (intro w' hS; (first | obtain ⟨_, rfl⟩ := hS | skip); go_simp; (try (go_bits; go_simp)); (first | done | with_reducible rfl | (rw [if_neg (by omega)]; (try (go_bits; go_simp)); (first | done | with_reducible rfl)) | (rw [if_pos (by omega)]; (try (go_bits; go_simp)); (first | done | with_reducible rfl))))); (try simp only [Act.put, List.setIfInBounds_toArray, List.set_cons_zero, List.set_cons_succ])) | ((refine sch_skip rfl rfl rfl rfl ?_); (try simp only [Act.put, List.setIfInBounds_toArray, List.set_cons_zero, List.set_cons_succ])))
                                          refine sch_e1 rfl rfl rfl rfl ?_
                                          · refine ⟨rfl, fun K hK => ?_⟩
                                            have hrw36 := HR35.out.get 0 rfl
                                            simp only at hrw36
                                            rw [Nat.zero_add] at hrw36
                                            have hme36 := HR35.out.1.blk H9.out.2.2.1.me (by simp)
                                            obtain ⟨A36, c36, hv36⟩ := off_shape hrw36
                                            have HW36 := hide (And.intro hrw36 HR35.out.1)
                                            subst hv36
                                            have q36 := hme36.cell (i := 0) rfl
                                            have z36 := hme36.frozen 0
                                            have lq36 := hme36.lt
                                            clear hrw36 hme36
                                            go_wp2
                                            have HE36 := hide (rbeg_end (p := p) (n := n3) (l3 := l3) HW36.out.1 (by omega) (by rw [List.flatMap_append]; simp) HW36.out.2 H9.out.2.2.1.me H9.out.2.2.2)
                                            obtain ⟨v9x, hr9x, hm9x, ho9x, hn9x⟩ := HE36.out
                                            refine hK _ _ (HS29.out _ ho9x) ?_
                                            clear hr9x hm9x ho9x hn9x
                                            clear hK K
                                            try simp only [Act.put, List.setIfInBounds_toArray, List.set_cons_zero, List.set_cons_succ]
                                            repeat (first | ((refine sch_y rfl rfl rfl rfl ?_; apply Exists.intro; refine ⟨?_, ?_⟩; next => (intro w' hS; (first | obtain ⟨_, rfl⟩ := hS | skip); go_simp; (try (go_bits; go_simp)); (first | done | with_reducible rfl | (rw [if_neg (by omega)]; (try (go_bits; go_simp)); (first | done | with_reducible rfl)) | (rw [if_pos (by omega)]; (try (go_bits; go_simp)); (first | done | with_reducible rfl))))); (try simp only [Act.put, List.setIfInBounds_toArray, List.set_cons_zero, List.set_cons_succ])) | ((refine sch_skip rfl rfl rfl rfl ?_); (try simp only [Act.put, List.setIfInBounds_toArray, List.set_cons_zero, List.set_cons_succ])))
                                            refine sch_nil ?_
                                            go_wp2_with fail
                                            go_meet
                                            exact HE36.out
                                  · refine ⟨rfl, fun K hK => ?_⟩
                                    have q37 : ((W9.alloc (.cells #[.int .u32 p.src, .int .u32 p.dst, I64 p.proto, I64 p.ttl, I64 p.id, I64 p.off, .bool p.more, .slice none 0 0, I64 now, .slice none 0 0, .slice none 0 0, I64 (-1), I64 0] rcolT)).drew).cell? ⟨r, 0, none⟩ = some (.slice A3 n3 c3) := (HR31.out.1.blk H9.out.2.2.1.me (by simp)).cell (i := 0) rfl
                                    go_wp2
                                    refine hK _ _ (HS29.out _ (HR31.out.1.mono (by simp))) ?_
                                    clear q37
                                    clear hK K
                                    try simp only [Act.put, List.setIfInBounds_toArray, List.set_cons_zero, List.set_cons_succ]
                                    repeat (first | ((refine sch_y rfl rfl rfl rfl ?_; apply Exists.intro; refine ⟨?_, ?_⟩; next => (intro w' hS; (first | obtain ⟨_, rfl⟩ := hS | skip); go_simp; (try (go_bits; go_simp)); (first | done | with_reducible rfl | (rw [if_neg (by omega)]; (try (go_bits; go_simp)); (first | done | with_reducible rfl)) | (rw [if_pos (by omega)]; (try (go_bits; go_simp)); (first | done | with_reducible rfl))))); (try simp only [Act.put, List.setIfInBounds_toArray, List.set_cons_zero, List.set_cons_succ])) | ((refine sch_skip rfl rfl rfl rfl ?_); (try simp only [Act.put, List.setIfInBounds_toArray, List.set_cons_zero, List.set_cons_succ])))
                                    refine sch_e1 rfl rfl rfl rfl ?_
                                    · refine ⟨rfl, fun K hK => ?_⟩
                                      go_wp2
                                      have HR38 := hide (HR31.out.made' #[] 0 [] (W9.heap.size + 1) (by simp) (rfl) (by rfl) (by decide))
                                      refine hK _ _ (HS29.out _ (HR38.out.1.mono (by simp))) ?_
                                      clear hK K
                                      try simp only [Act.put, List.setIfInBounds_toArray, List.set_cons_zero, List.set_cons_succ]
                                      repeat (first | ((refine sch_y rfl rfl rfl rfl ?_; apply Exists.intro; refine ⟨?_, ?_⟩; next => (intro w' hS; (first | obtain ⟨_, rfl⟩ := hS | skip); go_simp; (try (go_bits; go_simp)); (first | done | with_reducible rfl | (rw [if_neg (by omega)]; (try (go_bits; go_simp)); (first | done | with_reducible rfl)) | (rw [if_pos (by omega)]; (try (go_bits; go_simp)); (first | done | with_reducible rfl))))); (try simp only [Act.put, List.setIfInBounds_toArray, List.set_cons_zero, List.set_cons_succ])) | ((refine sch_skip rfl rfl rfl rfl ?_); (try simp only [Act.put, List.setIfInBounds_toArray, List.set_cons_zero, List.set_cons_succ])))
                                      refine sch_e1 rfl rfl rfl rfl ?_
                                      · refine ⟨rfl, fun K hK => ?_⟩
                                        refine wp_appG (.tmp 129) (.tmp 133) 145 rfl rcolT i0 (.agg zsC.toArray) 13 144 Try.underlying145 hi0 hz0 hs0 hb0' rfl (by decide) W9 [] [⟨.slice (some ⟨W9.heap.size, 0, none⟩) 1 1, 1, (rcc (newR p now))⟩] _ (.slice (some ⟨W9.heap.size + 1, 0, none⟩) 0 0) (0) ([]) rfl HR38.out rfl base (.slice A3 n3 c3) n3 (l3.flatMap rcc) rfl (off_keep HRW3.out HR38.out.1) (rcc_one H9.out.2.2.1.cols) (by simp only [maxLen]; omega) (by omega) ?_
                                        intro v39 y39 hr
                                        have HR39 := hide hr
                                        clear hr
                                        refine hK _ _ (HS29.out _ (HR39.out.1.mono (by simp))) ?_
                                        clear hK K
                                        try simp only [Act.put, List.setIfInBounds_toArray, List.set_cons_zero, List.set_cons_succ]
                                        repeat (first | ((refine sch_y rfl rfl rfl rfl ?_; apply Exists.intro; refine ⟨?_, ?_⟩; next => (intro w' hS; (first | obtain ⟨_, rfl⟩ := hS | skip); go_simp; (try (go_bits; go_simp)); (first | done | with_reducible rfl | (rw [if_neg (by omega)]; (try (go_bits; go_simp)); (first | done | with_reducible rfl)) | (rw [if_pos (by omega)]; (try (go_bits; go_simp)); (first | done | with_reducible rfl))))); (try simp only [Act.put, List.setIfInBounds_toArray, List.set_cons_zero, List.set_cons_succ])) | ((refine sch_skip rfl rfl rfl rfl ?_); (try simp only [Act.put, List.setIfInBounds_toArray, List.set_cons_zero, List.set_cons_succ])))
                                        refine sch_e1 rfl rfl rfl rfl ?_
                                        · refine ⟨rfl, fun K hK => ?_⟩
                                          refine wp_appG (.tmp 134) (.tmp 138) 145 rfl rcolT i0 (.agg zsC.toArray) 13 144 Try.underlying145 hi0 hz0 hs0 hb0' rfl (by decide) W9 [] [⟨.slice (some ⟨W9.heap.size, 0, none⟩) 1 1, 1, (rcc (newR p now))⟩] _ (v39) (0 + n3) ([] ++ (l3.flatMap rcc)) rfl HR39.out rfl _ (.slice (some ⟨W9.heap.size, 0, none⟩) 1 1) 1 (rcc (newR p now)) rfl (HR39.out.get 1 rfl) (newR_one p now) (by simp only [maxLen]; omega) (by omega) ?_
                                          intro v40 y40 hr
                                          have HR40 := hide hr
                                          clear hr
                                          refine hK _ _ (HS29.out _ (HR40.out.1.mono (by simp))) ?_
                                          clear hK K
                                          try simp only [Act.put, List.setIfInBounds_toArray, List.set_cons_zero, List.set_cons_succ]
                                          repeat (first | ((refine sch_y rfl rfl rfl rfl ?_; apply Exists.intro; refine ⟨?_, ?_⟩; next => (intro w' hS; (first | obtain ⟨_, rfl⟩ := hS | skip); go_simp; (try (go_bits; go_simp)); (first | done | with_reducible rfl | (rw [if_neg (by omega)]; (try (go_bits; go_simp)); (first | done | with_reducible rfl)) | (rw [if_pos (by omega)]; (try (go_bits; go_simp)); (first | done | with_reducible rfl))))); (try simp only [Act.put, List.setIfInBounds_toArray, List.set_cons_zero, List.set_cons_succ])) | ((refine sch_skip rfl rfl rfl rfl ?_); (try simp only [Act.put, List.setIfInBounds_toArray, List.set_cons_zero, List.set_cons_succ])))
                                          refine sch_e1 rfl rfl rfl rfl ?_
                                          · refine ⟨rfl, fun K hK => ?_⟩
                                            have hrw41 := HR40.out.get 0 rfl
                                            simp only at hrw41
                                            rw [Nat.zero_add] at hrw41
                                            have hme41 := HR40.out.1.blk H9.out.2.2.1.me (by simp)
                                            obtain ⟨A41, c41, hv41⟩ := off_shape hrw41
                                            have HW41 := hide (And.intro hrw41 HR40.out.1)
                                            subst hv41
                                            have q41 := hme41.cell (i := 0) rfl
                                            have z41 := hme41.frozen 0
                                            have lq41 := hme41.lt
                                            clear hrw41 hme41
                                            go_wp2
                                            have HE41 := hide (rbeg_end (p := p) (n := n3) (l3 := l3) HW41.out.1 (by omega) (by rw [List.flatMap_append]; simp) HW41.out.2 H9.out.2.2.1.me H9.out.2.2.2)
                                            obtain ⟨v9x, hr9x, hm9x, ho9x, hn9x⟩ := HE41.out
                                            refine hK _ _ (HS29.out _ ho9x) ?_
                                            clear hr9x hm9x ho9x hn9x
                                            clear hK K
                                            try simp only [Act.put, List.setIfInBounds_toArray, List.set_cons_zero, List.set_cons_succ]
                                            repeat (first | ((refine sch_y rfl rfl rfl rfl ?_; apply Exists.intro; refine ⟨?_, ?_⟩; next => (intro w' hS; (first | obtain ⟨_, rfl⟩ := hS | skip); go_simp; (try (go_bits; go_simp)); (first | done | with_reducible rfl | (rw [if_neg (by omega)]; (try (go_bits; go_simp)); (first | done | with_reducible rfl)) | (rw [if_pos (by omega)]; (try (go_bits; go_simp)); (first | done | with_reducible rfl))))); (try simp only [Act.put, List.setIfInBounds_toArray, List.set_cons_zero, List.set_cons_succ])) | ((refine sch_skip rfl rfl rfl rfl ?_); (try simp only [Act.put, List.setIfInBounds_toArray, List.set_cons_zero, List.set_cons_succ])))
                                            refine sch_nil ?_
                                            go_wp2_with fail
                                            go_meet
                                            exact HE41.out
                              case rest =>
                                obtain ⟨v', hrow, hme, hob, hvn⟩ := hcut
                                obtain ⟨A4, c4, rfl⟩ := off_shape hrow
                                have q0 := hme.cell (i := 0) rfl
                                have lq := hme.lt
                                have HB := hide (show _ ∧ _ ∧ _ ∧ _ from ⟨hrow, hme, hob, hvn⟩)
                                have e30 : IntKind.i64.wrap ((n3 : Int) + 1 - 1) = (n3 : Int) := by simp [IntKind.wrap, IntKind.bits, IntKind.signed]; omega
                                clear hrow hme hob hvn
                                go_wp2
                                go_meet
                                have hlen : (l3 ++ [newR p now]).length = n3 + 1 := by rw [List.length_append, ← HN3.out]; rfl
                                refine ⟨n3, l3 ++ [newR p now], newR p now, .slice A4 (n3 + 1) c4, by go_num, ?_, keyB_refl p, by simp [newR], ⟨HB.out.2.1, by rw [hlen]; exact HB.out.1, ?_, HH.out.rb⟩, ?_, by rw [hlen]; omega, HB.out.2.2.1.blk H9B.out.1 (by simpa using HRR.out.1), HB.out.2.2.1.blk H9B.out.2.1 (by simpa using HRR.out.2), H9B.out.2.2.trans HB.out.2.2.1, .inr fun q hq => Nat.le_trans H9B.out.2.2.size (HB.out.2.2.2 q hq), ?_⟩
                                · rw [List.getElem?_append_right (by rw [← HN3.out]; exact Nat.le_refl _), ← HN3.out]
                                  simp
                                · intro z hz
                                  rcases List.mem_append.1 hz with h1 | h1
                                  · exact (H9.out.2.2.1.cols z h1).onlyK HB.out.2.2.1 (fun q hq _ => by obtain rfl := List.mem_singleton.1 hq; exact ⟨_, _, H9.out.2.2.1.me, by decide, by decide⟩)
                                  · obtain rfl := List.mem_singleton.1 h1
                                    exact ⟨off_nil _ _ _ _, off_nil _ _ _ _⟩
                                · rw [List.map_append, HRM.out.1]
                                  unfold withC
                                  rw [if_neg HIN.out]
                                  rfl
                                · intro q hq
                                  rcases mem_rfoot.1 hq with h1 | h1 | ⟨z, hz, h1⟩
                                  · exact .inl (mem_rfoot.2 (.inl h1))
                                  · exact .inr (Nat.le_trans H9B.out.2.2.size (HB.out.2.2.2 q h1))
                                  · rcases List.mem_append.1 hz with h2 | h2
                                    · exact .inl (mem_rfoot.2 (.inr (.inr ⟨z, HRM.out.2.2.1 z h2, h1⟩)))
                                    · obtain rfl := List.mem_singleton.1 h2
                                      simp [newR, Value.ownBlock] at h1
                          · have HX := hide (And.intro hx hkb)
                            clear hx hkb
                            go_wp2
                            go_meet
                            exact ⟨j, expR now l, x, _, rfl, HX.out.1, HX.out.2, fun h6 => HN64.out ⟨j, x, hj, rfl, HX.out.1, HX.out.2, h6⟩, HR2.out.1, HIX.out j x HX.out.1 HX.out.2, by rw [HS.out.2.1]; omega, HR2.out.2.2.1, HR2.out.2.2.2.1, HR2.out.2.2.2.2, HS.out.2.2.2.2.2.2, fun q hq => rfoot_sub (fun z hz => (expR_sub now l).subset hz) HS.out.2.2.2.2.2.2 hq⟩
                        case rest =>
                          obtain ⟨k2, l2, x, va2, hs, hx, hkb, h64n, hR, hml, hl2, hbx, hbz, hoc, hvb2, hft⟩ := hcut
                          subst hs
                          obtain ⟨vd0, vh0, cc⟩ := x
                          simp only at hkb h64n
                          obtain ⟨n, hn⟩ : ∃ n, n = l2.length := ⟨_, rfl⟩
                          have hk2 : k2 < n := by rw [hn]; exact (List.getElem?_eq_some_iff.1 hx).1
                          have hr := hR.row
                          rw [← hn] at hr hl2
                          obtain ⟨g, o, c, cs, rfl, hB, -, -⟩ := off_blk hr (by omega)
                          have hok := HOK.out
                          rw [← hml] at hok
                          have hfx := hok.fit cc (List.mem_map.2 ⟨_, List.mem_of_getElem? hx, rfl⟩)
                          have hL2 : (l2.map (·.c))[k2]? = some cc := by rw [List.getElem?_map, hx]; rfl
                          have HM5 : Hid (addM last (l.map (·.c)) p now = if doneB (stepC cc p) then ⟨now, (l2.map (·.c)).eraseIdx k2, wholeP (stepC cc p), true, 0⟩ else ⟨now, (l2.map (·.c)).set k2 (stepC cc p), zeroP, false, 0⟩) := hide (by
                            rw [addM_ix (k := k2) (c := cc) HV.out HNOW.out HLT.out HN2.out hml (hok.one HF.out) hL2 hkb, if_neg h64n])
                          have hcc := hR.cols _ (List.mem_of_getElem? hx)
                          obtain ⟨dl, hdl⟩ : ∃ dl, dl = cc.data.length := ⟨_, rfl⟩
                          have hdr := hcc.dr
                          have hhr := hcc.hr
                          simp only at hdr hhr
                          rw [← hdl] at hdr hhr
                          have hvl : cc.hv.length = dl := by have := hhr.1; simpa using this
                          obtain ⟨Ad, cd, rfl⟩ := off_shape hdr
                          obtain ⟨Ah, ch, rfl⟩ := off_shape hhr
                          have hbd : ¬ p.bad := fun hb => by have h1 := HV.out; rw [Pkt.valid_bad hb] at h1; cases h1
                          unfold Pkt.bad at hbd
                          obtain ⟨q, hq⟩ : ∃ q : Nat, p.off = (q : Int) := ⟨p.off.toNat, by omega⟩
                          obtain ⟨np, hnp⟩ : ∃ np, np = p.data.length := ⟨_, rfl⟩
                          have hqn : q + np ≤ 65535 := by omega
                          have hdm : dl ≤ 65535 := by rw [hdl]; exact hfx.d
                          have HEP := hide (show endP p = q + np by unfold endP; rw [hq, hnp]; simp)
                          have HQ := hide hq
                          have HNP := hide hnp
                          have HDL := hide (And.intro hdl hvl)
                          have hg := (off_ge hr g rfl).1
                          have hgr : g ≠ r := by have h1 := off_ne_blk hr hR.me (by decide); simpa [Value.ownBlock] using h1
                          have e12 : IntKind.i64.wrap ((cc.cnt : Int) + 1) = (cc.cnt : Int) + 1 := by have h1 := hfx.n; simp [IntKind.wrap, IntKind.bits, IntKind.signed]; omega
                          have c12 := row_cells hr hx 12 _ rfl
                          simp only at c12
                          have fz := hB.frozen (o + k2 * 13 + 12)
                          have ltg := hB.lt
                          clear f0 f1 f2 f3 f4 f5 f6 f7 ltx r0 ltr
                          have r0 := hR.me.cell (i := 0) rfl
                          have ltr := hR.me.lt
                          obtain ⟨f0, f1, f2, f3, f4, f5, f6, f7⟩ := hbx.pkt8r
                          have ltx := hbx.lt
                          obtain ⟨W3, hW3⟩ : ∃ W, W = wc.setCell ⟨g, o + k2 * 13 + 12, none⟩ (I64 ((cc.cnt : Int) + 1)) := ⟨_, rfl⟩
                          have o3 : Only [g] wc W3 := by rw [hW3]; exact (Only.refl _ _).set (p := ⟨g, o + k2 * 13 + 12, none⟩) (.inl (by simp)) _
                          have hr3 := row_set hr hn.symm hx (z' := ⟨.slice Ad dl cd, .slice Ah dl ch, { cc with cnt := cc.cnt + 1 }⟩) 12 (I64 ((cc.cnt : Int) + 1)) (by first | rfl | simp [rcc]) (by decide)
                          rw [← hW3] at hr3
                          have hgk : ∀ q2 ∈ [g], q2 < wc.heap.size → ∃ t cs, Blk wc q2 t cs ∧ t ≠ u8T ∧ t ≠ boolT := fun q2 hq2 _ => by obtain rfl := List.mem_singleton.1 hq2; exact ⟨_, _, hB, by decide, by decide⟩
                          have H3 := hide (show _ ∧ _ ∧ _ ∧ _ ∧ _ ∧ _ ∧ _ ∧ _ from ⟨o3, hr3, o3.blk hR.me (by simpa using hgr.symm), off_only hdr o3 (fun j hj => by simp; rintro rfl; exact off_ne_blk hdr hB (by decide) hj), off_only hhr o3 (fun j hj => by simp; rintro rfl; exact off_ne_blk hhr hB (by decide) hj),
                            o3.blk hbx (by simpa using hbx.ne hB (by decide)), o3.blk hbz (by simpa using hbz.ne hB (by decide)), (HA.out.1.far hoc (fun g o s e hne hm => HA.out.2.2 g o s e hne (mem_rfoot.2 (.inl (List.mem_singleton.1 hm))))).far o3 (fun g2 o2 s2 e hne hm => by
                              obtain rfl := List.mem_singleton.1 hm
                              rcases hvb2 with h1 | h1
                              · exact HA.out.2.2 _ _ _ e hne (mem_rfoot.2 (.inr (.inl (by rw [← h1]; rfl))))
                              · exact absurd (h1 _ rfl) (Nat.not_le.2 (HA.out.1.lt e hne)))⟩)
                          have HB3 := hide (show ∃ cs, Blk W3 g rcolT cs from by rw [hW3]; exact ⟨_, hB.set _ _⟩)
                          have HCOLS := hide (show ∀ z ∈ l2, RcAt base W3 z from fun z hz => (hR.cols z hz).onlyK o3 hgk)
                          have HGV := hide (show va.ownBlock = some g ∨ w.heap.size ≤ g from by
                            rcases hvb2 with h1 | h1
                            · exact .inl (by rw [← h1]; rfl)
                            · exact .inr (h1 g rfl))
                          have HO3 := hide (show Only (r :: va.ownBlock.toList) w W3 from (hoc.mono (S' := r :: va.ownBlock.toList) (by intro j hj _; simp at hj ⊢; exact .inl hj)).trans' o3 (by
                            intro j hj hlt
                            obtain rfl := List.mem_singleton.1 hj
                            rcases HGV.out with h1 | h1
                            · exact List.mem_cons_of_mem _ (mem_own.2 h1)
                            · omega))
                          have HC := hide (show _ ∧ _ ∧ _ ∧ _ ∧ _ ∧ _ from ⟨hx, hn, hft, hg, hfx, hgr⟩)
                          have HW3 := hide hW3
                          clear hx hkb h64n hR hml hbx hbz hoc hvb2 hft hr hB hok hfx hL2 hcc hdl hdr hhr hvl hbd hq hnp hg hgr o3 hr3 hgk hW3 hn
                          go_upto_region 33 with (fail)
                          rw [show wc.setCell ⟨g, o + k2 * 13 + 12, none⟩ (.int .i64 ((cc.cnt : Int) + 1)) = W3 from HW3.out.symm]
                          clear f0 f1 f2 f3 f4 f5 f6 f7 ltx r0 ltr c12 fz ltg e12
                          obtain ⟨f0, f1, f2, f3, f4, f5, f6, f7⟩ := H3.out.2.2.2.2.2.1.pkt8r
                          have ltx := H3.out.2.2.2.2.2.1.lt
                          rw [HQ.out] at f5
                          rw [← HNP.out] at f7
                          have e15 : IntKind.i64.wrap ((q : Int) + (np : Int)) = (q : Int) + (np : Int) := by simp [IntKind.wrap, IntKind.bits, IntKind.signed]; omega
                          go_upto_region 34 with (fail)
                          clear e15
                          have hz1 : (l2.set k2 ⟨.slice Ad dl cd, .slice Ah dl ch, { cc with cnt := cc.cnt + 1 }⟩)[k2]? = some (⟨.slice Ad dl cd, .slice Ah dl ch, { cc with cnt := cc.cnt + 1 }⟩ : RP) := List.getElem?_set_self (by rw [← HC.out.2.1]; exact hk2)
                          have HZ1 := hide hz1
                          have HS34 := hide (show ∀ W : World, Only [] W3 W → (fun w' => w'.cell? ⟨g, o + k2 * 13 + 9, none⟩ = some (.slice Ad dl cd) ∧ w'.cell? ⟨g, o + k2 * 13 + 10, none⟩ = some (.slice Ah dl ch)) W from fun W hW => by
                            have h1 := off_keep H3.out.2.1 hW
                            exact ⟨row_cells h1 HZ1.out 9 _ rfl, row_cells h1 HZ1.out 10 _ rfl⟩)
                          clear hz1
                          go_cut [16, 17] from 167 to 178 (fun s16 s17 wx => TwoRows W3 dl (bcells cc.data) (cc.hv.map Value.bool) s16 s17 wx)
                          case first =>
                            have HO0 := hide (show Only [] W3 W3.drew from (Only.refl [] W3).drew)
                            obtain ⟨i1, hi1, hz1, hs1, hb1⟩ := info_parts u8_info1
                            obtain ⟨i2, hi2, hz2, hs2, hb2⟩ := info_parts bool_info1
                            refine wp_region_sch 14 [0, 5, 6, 11] (fun w' => w'.cell? ⟨g, o + k2 * 13 + 9, none⟩ = some (.slice Ad dl cd) ∧ w'.cell? ⟨g, o + k2 * 13 + 10, none⟩ = some (.slice Ah dl ch)) (by kernel_rfl) (by kernel_rfl) (HS34.out _ HO0.out) ?_
                            repeat (first | ((refine sch_y rfl rfl rfl rfl ?_; apply Exists.intro; refine ⟨?_, ?_⟩; next => (intro w' hS; (first | obtain ⟨_, rfl⟩ := hS | skip); go_simp; (try (go_bits; go_simp)); (first | done | with_reducible rfl | (rw [if_neg (by omega)]; (try (go_bits; go_simp)); (first | done | with_reducible rfl)) | (rw [if_pos (by omega)]; (try (go_bits; go_simp)); (first | done | with_reducible rfl))))); (try simp only [Act.put, List.setIfInBounds_toArray, List.set_cons_zero, List.set_cons_succ])) | ((refine sch_skip rfl rfl rfl rfl ?_); (try simp only [Act.put, List.setIfInBounds_toArray, List.set_cons_zero, List.set_cons_succ])))
                            refine sch_e2 rfl rfl rfl rfl rfl rfl ?_ ?_
                            · refine ⟨rfl, fun K hK => ?_⟩
                              go_wp2
                              have HX42 := hide (show offRow (W3.alloc (.cells #[] u8T)).drew W3.heap.size u8T 1 (.slice (some ⟨W3.heap.size, 0, none⟩) 0 0) 0 [] from off_made (w := W3.drew) HO0.out.size (by simp))
                              have HO42 := hide (show Only [] W3 (W3.alloc (.cells #[] u8T)).drew from Only.trans HO0.out ((Only.refl [] _).alloc _))
                              refine hK _ _ (HS34.out _ HO42.out) ?_
                              clear hK K
                              try simp only [Act.put, List.setIfInBounds_toArray, List.set_cons_zero, List.set_cons_succ]
                              repeat (first | ((refine sch_y rfl rfl rfl rfl ?_; apply Exists.intro; refine ⟨?_, ?_⟩; next => (intro w' hS; (first | obtain ⟨_, rfl⟩ := hS | skip); go_simp; (try (go_bits; go_simp)); (first | done | with_reducible rfl | (rw [if_neg (by omega)]; (try (go_bits; go_simp)); (first | done | with_reducible rfl)) | (rw [if_pos (by omega)]; (try (go_bits; go_simp)); (first | done | with_reducible rfl))))); (try simp only [Act.put, List.setIfInBounds_toArray, List.set_cons_zero, List.set_cons_succ])) | ((refine sch_skip rfl rfl rfl rfl ?_); (try simp only [Act.put, List.setIfInBounds_toArray, List.set_cons_zero, List.set_cons_succ])))
                              refine sch_e2 rfl rfl rfl rfl rfl rfl ?_ ?_
                              · refine ⟨rfl, fun K hK => ?_⟩
                                refine wp_append_offs _ (.tmp 167) (.tmp 171) 28 rfl u8T i1 (.int .u8 0) 1 1 Try.underlying28 hi1 hz1 hs1 hb1 rfl (by decide) W3.heap.size (.slice (some ⟨W3.heap.size, 0, none⟩) 0 0) 0 [] rfl HX42.out HO42.out.size base (.slice Ad dl cd) dl (bcells cc.data) rfl (off_keep H3.out.2.2.2.1 HO42.out) (b_one _) (by simp only [maxLen]; omega) (by omega) ?_
                                intro v43 y43 hr ho hv
                                rw [Nat.zero_add, List.nil_append] at hr
                                have h3 := HO42.out.trans' ho (by intro i hi hl; have := (off_ge HX42.out i (mem_own.1 hi)).1; omega)
                                have HX43 := hide hr
                                have HO43 := hide h3
                                clear hr ho hv h3
                                refine hK _ _ (HS34.out _ HO43.out) ?_
                                clear hK K
                                try simp only [Act.put, List.setIfInBounds_toArray, List.set_cons_zero, List.set_cons_succ]
                                repeat (first | ((refine sch_y rfl rfl rfl rfl ?_; apply Exists.intro; refine ⟨?_, ?_⟩; next => (intro w' hS; (first | obtain ⟨_, rfl⟩ := hS | skip); go_simp; (try (go_bits; go_simp)); (first | done | with_reducible rfl | (rw [if_neg (by omega)]; (try (go_bits; go_simp)); (first | done | with_reducible rfl)) | (rw [if_pos (by omega)]; (try (go_bits; go_simp)); (first | done | with_reducible rfl))))); (try simp only [Act.put, List.setIfInBounds_toArray, List.set_cons_zero, List.set_cons_succ])) | ((refine sch_skip rfl rfl rfl rfl ?_); (try simp only [Act.put, List.setIfInBounds_toArray, List.set_cons_zero, List.set_cons_succ])))
                                refine sch_e1 rfl rfl rfl rfl ?_
                                · refine ⟨rfl, fun K hK => ?_⟩
                                  go_wp2
                                  have HX44 := hide (show offRow (y43.alloc (.cells #[] boolT)) W3.heap.size boolT 1 (.slice (some ⟨y43.heap.size, 0, none⟩) 0 0) 0 [] from off_made (w := y43) HO43.out.size (by simp))
                                  have HO44 := hide (show Only [] W3 (y43.alloc (.cells #[] boolT)) from Only.trans HO43.out ((Only.refl [] _).alloc _))
                                  have HK44 := hide (show offRow (y43.alloc (.cells #[] boolT)) W3.heap.size _ 1 _ _ _ from off_keep HX43.out ((Only.refl [] _).alloc _))
                                  refine hK _ _ (HS34.out _ HO44.out) ?_
                                  clear hK K
                                  try simp only [Act.put, List.setIfInBounds_toArray, List.set_cons_zero, List.set_cons_succ]
                                  repeat (first | ((refine sch_y rfl rfl rfl rfl ?_; apply Exists.intro; refine ⟨?_, ?_⟩; next => (intro w' hS; (first | obtain ⟨_, rfl⟩ := hS | skip); go_simp; (try (go_bits; go_simp)); (first | done | with_reducible rfl | (rw [if_neg (by omega)]; (try (go_bits; go_simp)); (first | done | with_reducible rfl)) | (rw [if_pos (by omega)]; (try (go_bits; go_simp)); (first | done | with_reducible rfl))))); (try simp only [Act.put, List.setIfInBounds_toArray, List.set_cons_zero, List.set_cons_succ])) | ((refine sch_skip rfl rfl rfl rfl ?_); (try simp only [Act.put, List.setIfInBounds_toArray, List.set_cons_zero, List.set_cons_succ])))
                                  refine sch_e1 rfl rfl rfl rfl ?_
                                  · refine ⟨rfl, fun K hK => ?_⟩
                                    refine wp_append_offs _ (.tmp 173) (.tmp 177) 81 rfl boolT i2 (.bool false) 1 1 Try.underlying81 hi2 hz2 hs2 hb2 rfl (by decide) W3.heap.size (.slice (some ⟨y43.heap.size, 0, none⟩) 0 0) 0 [] rfl HX44.out HO44.out.size base (.slice Ah dl ch) dl (cc.hv.map Value.bool) rfl (off_keep H3.out.2.2.2.2.1 HO44.out) (bool_one _) (by simp only [maxLen]; omega) (by omega) ?_
                                    intro v45 y45 hr ho hv
                                    rw [Nat.zero_add, List.nil_append] at hr
                                    obtain ⟨h2, h3⟩ := two_snd HK44.out HX44.out HO44.out hr ho
                                    have HK45 := hide h2
                                    have HX45 := hide hr
                                    have HO45 := hide h3
                                    clear hr ho hv h3 h2
                                    refine hK _ _ (HS34.out _ HO45.out) ?_
                                    clear hK K
                                    try simp only [Act.put, List.setIfInBounds_toArray, List.set_cons_zero, List.set_cons_succ]
                                    repeat (first | ((refine sch_y rfl rfl rfl rfl ?_; apply Exists.intro; refine ⟨?_, ?_⟩; next => (intro w' hS; (first | obtain ⟨_, rfl⟩ := hS | skip); go_simp; (try (go_bits; go_simp)); (first | done | with_reducible rfl | (rw [if_neg (by omega)]; (try (go_bits; go_simp)); (first | done | with_reducible rfl)) | (rw [if_pos (by omega)]; (try (go_bits; go_simp)); (first | done | with_reducible rfl))))); (try simp only [Act.put, List.setIfInBounds_toArray, List.set_cons_zero, List.set_cons_succ])) | ((refine sch_skip rfl rfl rfl rfl ?_); (try simp only [Act.put, List.setIfInBounds_toArray, List.set_cons_zero, List.set_cons_succ])))
                                    refine sch_nil ?_
                                    go_wp2_with fail
                                    go_meet
                                    exact ⟨HK45.out, HX45.out, HO45.out⟩
                              · refine ⟨rfl, fun K hK => ?_⟩
                                go_wp2
                                have HX46 := hide (show offRow ((W3.alloc (.cells #[] u8T)).alloc (.cells #[] boolT)).drew W3.heap.size boolT 1 (.slice (some ⟨W3.heap.size + 1, 0, none⟩) 0 0) 0 [] from off_made (w := (W3.alloc (.cells #[] u8T)).drew) HO42.out.size (by simp))
                                have HO46 := hide (show Only [] W3 ((W3.alloc (.cells #[] u8T)).alloc (.cells #[] boolT)).drew from Only.trans HO42.out ((Only.refl [] _).alloc _))
                                have HK46 := hide (show offRow ((W3.alloc (.cells #[] u8T)).alloc (.cells #[] boolT)).drew W3.heap.size _ 1 _ _ _ from off_keep HX42.out ((Only.refl [] _).alloc _))
                                refine hK _ _ (HS34.out _ HO46.out) ?_
                                clear hK K
                                try simp only [Act.put, List.setIfInBounds_toArray, List.set_cons_zero, List.set_cons_succ]
                                repeat (first | ((refine sch_y rfl rfl rfl rfl ?_; apply Exists.intro; refine ⟨?_, ?_⟩; next => (intro w' hS; (first | obtain ⟨_, rfl⟩ := hS | skip); go_simp; (try (go_bits; go_simp)); (first | done | with_reducible rfl | (rw [if_neg (by omega)]; (try (go_bits; go_simp)); (first | done | with_reducible rfl)) | (rw [if_pos (by omega)]; (try (go_bits; go_simp)); (first | done | with_reducible rfl))))); (try simp only [Act.put, List.setIfInBounds_toArray, List.set_cons_zero, List.set_cons_succ])) | ((refine sch_skip rfl rfl rfl rfl ?_); (try simp only [Act.put, List.setIfInBounds_toArray, List.set_cons_zero, List.set_cons_succ])))
                                refine sch_e1 rfl rfl rfl rfl ?_
                                · refine ⟨rfl, fun K hK => ?_⟩
                                  refine wp_append_offs _ (.tmp 167) (.tmp 171) 28 rfl u8T i1 (.int .u8 0) 1 1 Try.underlying28 hi1 hz1 hs1 hb1 rfl (by decide) W3.heap.size (.slice (some ⟨W3.heap.size, 0, none⟩) 0 0) 0 [] rfl HK46.out HO46.out.size base (.slice Ad dl cd) dl (bcells cc.data) rfl (off_keep H3.out.2.2.2.1 HO46.out) (b_one _) (by simp only [maxLen]; omega) (by omega) ?_
                                  intro v47 y47 hr ho hv
                                  rw [Nat.zero_add, List.nil_append] at hr
                                  obtain ⟨h2, h3⟩ := two_fst HK46.out HX46.out HO46.out hr ho
                                  have HK47 := hide h2
                                  have HX47 := hide hr
                                  have HO47 := hide h3
                                  clear hr ho hv h3 h2
                                  refine hK _ _ (HS34.out _ HO47.out) ?_
                                  clear hK K
                                  try simp only [Act.put, List.setIfInBounds_toArray, List.set_cons_zero, List.set_cons_succ]
                                  repeat (first | ((refine sch_y rfl rfl rfl rfl ?_; apply Exists.intro; refine ⟨?_, ?_⟩; next => (intro w' hS; (first | obtain ⟨_, rfl⟩ := hS | skip); go_simp; (try (go_bits; go_simp)); (first | done | with_reducible rfl | (rw [if_neg (by omega)]; (try (go_bits; go_simp)); (first | done | with_reducible rfl)) | (rw [if_pos (by omega)]; (try (go_bits; go_simp)); (first | done | with_reducible rfl))))); (try simp only [Act.put, List.setIfInBounds_toArray, List.set_cons_zero, List.set_cons_succ])) | ((refine sch_skip rfl rfl rfl rfl ?_); (try simp only [Act.put, List.setIfInBounds_toArray, List.set_cons_zero, List.set_cons_succ])))
                                  refine sch_e1 rfl rfl rfl rfl ?_
                                  · refine ⟨rfl, fun K hK => ?_⟩
                                    refine wp_append_offs _ (.tmp 173) (.tmp 177) 81 rfl boolT i2 (.bool false) 1 1 Try.underlying81 hi2 hz2 hs2 hb2 rfl (by decide) W3.heap.size (.slice (some ⟨W3.heap.size + 1, 0, none⟩) 0 0) 0 [] rfl HK47.out HO47.out.size base (.slice Ah dl ch) dl (cc.hv.map Value.bool) rfl (off_keep H3.out.2.2.2.2.1 HO47.out) (bool_one _) (by simp only [maxLen]; omega) (by omega) ?_
                                    intro v48 y48 hr ho hv
                                    rw [Nat.zero_add, List.nil_append] at hr
                                    obtain ⟨h2, h3⟩ := two_snd HX47.out HK47.out HO47.out hr ho
                                    have HK48 := hide h2
                                    have HX48 := hide hr
                                    have HO48 := hide h3
                                    clear hr ho hv h3 h2
                                    refine hK _ _ (HS34.out _ HO48.out) ?_
                                    clear hK K
                                    try simp only [Act.put, List.setIfInBounds_toArray, List.set_cons_zero, List.set_cons_succ]
                                    repeat (first | ((refine sch_y rfl rfl rfl rfl ?_; apply Exists.intro; refine ⟨?_, ?_⟩; next => (intro w' hS; (first | obtain ⟨_, rfl⟩ := hS | skip); go_simp; (try (go_bits; go_simp)); (first | done | with_reducible rfl | (rw [if_neg (by omega)]; (try (go_bits; go_simp)); (first | done | with_reducible rfl)) | (rw [if_pos (by omega)]; (try (go_bits; go_simp)); (first | done | with_reducible rfl))))); (try simp only [Act.put, List.setIfInBounds_toArray, List.set_cons_zero, List.set_cons_succ])) | ((refine sch_skip rfl rfl rfl rfl ?_); (try simp only [Act.put, List.setIfInBounds_toArray, List.set_cons_zero, List.set_cons_succ])))
                                    refine sch_nil ?_
                                    go_wp2_with fail
                                    go_meet
                                    exact ⟨HK48.out, HX48.out, HO48.out⟩
                            · refine ⟨rfl, fun K hK => ?_⟩
                              go_wp2
                              have HX49 := hide (show offRow (W3.alloc (.cells #[] boolT)).drew W3.heap.size boolT 1 (.slice (some ⟨W3.heap.size, 0, none⟩) 0 0) 0 [] from off_made (w := W3.drew) HO0.out.size (by simp))
                              have HO49 := hide (show Only [] W3 (W3.alloc (.cells #[] boolT)).drew from Only.trans HO0.out ((Only.refl [] _).alloc _))
                              refine hK _ _ (HS34.out _ HO49.out) ?_
                              clear hK K
                              try simp only [Act.put, List.setIfInBounds_toArray, List.set_cons_zero, List.set_cons_succ]
                              repeat (first | ((refine sch_y rfl rfl rfl rfl ?_; apply Exists.intro; refine ⟨?_, ?_⟩; next => (intro w' hS; (first | obtain ⟨_, rfl⟩ := hS | skip); go_simp; (try (go_bits; go_simp)); (first | done | with_reducible rfl | (rw [if_neg (by omega)]; (try (go_bits; go_simp)); (first | done | with_reducible rfl)) | (rw [if_pos (by omega)]; (try (go_bits; go_simp)); (first | done | with_reducible rfl))))); (try simp only [Act.put, List.setIfInBounds_toArray, List.set_cons_zero, List.set_cons_succ])) | ((refine sch_skip rfl rfl rfl rfl ?_); (try simp only [Act.put, List.setIfInBounds_toArray, List.set_cons_zero, List.set_cons_succ])))
                              refine sch_e1 rfl rfl rfl rfl ?_
                              · refine ⟨rfl, fun K hK => ?_⟩
                                go_wp2
                                have HX50 := hide (show offRow ((W3.alloc (.cells #[] boolT)).alloc (.cells #[] u8T)).drew W3.heap.size u8T 1 (.slice (some ⟨W3.heap.size + 1, 0, none⟩) 0 0) 0 [] from off_made (w := (W3.alloc (.cells #[] boolT)).drew) HO49.out.size (by simp))
                                have HO50 := hide (show Only [] W3 ((W3.alloc (.cells #[] boolT)).alloc (.cells #[] u8T)).drew from Only.trans HO49.out ((Only.refl [] _).alloc _))
                                have HK50 := hide (show offRow ((W3.alloc (.cells #[] boolT)).alloc (.cells #[] u8T)).drew W3.heap.size _ 1 _ _ _ from off_keep HX49.out ((Only.refl [] _).alloc _))
                                refine hK _ _ (HS34.out _ HO50.out) ?_
                                clear hK K
                                try simp only [Act.put, List.setIfInBounds_toArray, List.set_cons_zero, List.set_cons_succ]
                                repeat (first | ((refine sch_y rfl rfl rfl rfl ?_; apply Exists.intro; refine ⟨?_, ?_⟩; next => (intro w' hS; (first | obtain ⟨_, rfl⟩ := hS | skip); go_simp; (try (go_bits; go_simp)); (first | done | with_reducible rfl | (rw [if_neg (by omega)]; (try (go_bits; go_simp)); (first | done | with_reducible rfl)) | (rw [if_pos (by omega)]; (try (go_bits; go_simp)); (first | done | with_reducible rfl))))); (try simp only [Act.put, List.setIfInBounds_toArray, List.set_cons_zero, List.set_cons_succ])) | ((refine sch_skip rfl rfl rfl rfl ?_); (try simp only [Act.put, List.setIfInBounds_toArray, List.set_cons_zero, List.set_cons_succ])))
                                refine sch_e1 rfl rfl rfl rfl ?_
                                · refine ⟨rfl, fun K hK => ?_⟩
                                  refine wp_append_offs _ (.tmp 167) (.tmp 171) 28 rfl u8T i1 (.int .u8 0) 1 1 Try.underlying28 hi1 hz1 hs1 hb1 rfl (by decide) W3.heap.size (.slice (some ⟨W3.heap.size + 1, 0, none⟩) 0 0) 0 [] rfl HX50.out HO50.out.size base (.slice Ad dl cd) dl (bcells cc.data) rfl (off_keep H3.out.2.2.2.1 HO50.out) (b_one _) (by simp only [maxLen]; omega) (by omega) ?_
                                  intro v51 y51 hr ho hv
                                  rw [Nat.zero_add, List.nil_append] at hr
                                  obtain ⟨h2, h3⟩ := two_fst HX50.out HK50.out HO50.out hr ho
                                  have HK51 := hide h2
                                  have HX51 := hide hr
                                  have HO51 := hide h3
                                  clear hr ho hv h3 h2
                                  refine hK _ _ (HS34.out _ HO51.out) ?_
                                  clear hK K
                                  try simp only [Act.put, List.setIfInBounds_toArray, List.set_cons_zero, List.set_cons_succ]
                                  repeat (first | ((refine sch_y rfl rfl rfl rfl ?_; apply Exists.intro; refine ⟨?_, ?_⟩; next => (intro w' hS; (first | obtain ⟨_, rfl⟩ := hS | skip); go_simp; (try (go_bits; go_simp)); (first | done | with_reducible rfl | (rw [if_neg (by omega)]; (try (go_bits; go_simp)); (first | done | with_reducible rfl)) | (rw [if_pos (by omega)]; (try (go_bits; go_simp)); (first | done | with_reducible rfl))))); (try simp only [Act.put, List.setIfInBounds_toArray, List.set_cons_zero, List.set_cons_succ])) | ((refine sch_skip rfl rfl rfl rfl ?_); (try simp only [Act.put, List.setIfInBounds_toArray, List.set_cons_zero, List.set_cons_succ])))
                                  refine sch_e1 rfl rfl rfl rfl ?_
                                  · refine ⟨rfl, fun K hK => ?_⟩
                                    refine wp_append_offs _ (.tmp 173) (.tmp 177) 81 rfl boolT i2 (.bool false) 1 1 Try.underlying81 hi2 hz2 hs2 hb2 rfl (by decide) W3.heap.size (.slice (some ⟨W3.heap.size, 0, none⟩) 0 0) 0 [] rfl HK51.out HO51.out.size base (.slice Ah dl ch) dl (cc.hv.map Value.bool) rfl (off_keep H3.out.2.2.2.2.1 HO51.out) (bool_one _) (by simp only [maxLen]; omega) (by omega) ?_
                                    intro v52 y52 hr ho hv
                                    rw [Nat.zero_add, List.nil_append] at hr
                                    obtain ⟨h2, h3⟩ := two_snd HX51.out HK51.out HO51.out hr ho
                                    have HK52 := hide h2
                                    have HX52 := hide hr
                                    have HO52 := hide h3
                                    clear hr ho hv h3 h2
                                    refine hK _ _ (HS34.out _ HO52.out) ?_
                                    clear hK K
                                    try simp only [Act.put, List.setIfInBounds_toArray, List.set_cons_zero, List.set_cons_succ]
                                    repeat (first | ((refine sch_y rfl rfl rfl rfl ?_; apply Exists.intro; refine ⟨?_, ?_⟩; next => (intro w' hS; (first | obtain ⟨_, rfl⟩ := hS | skip); go_simp; (try (go_bits; go_simp)); (first | done | with_reducible rfl | (rw [if_neg (by omega)]; (try (go_bits; go_simp)); (first | done | with_reducible rfl)) | (rw [if_pos (by omega)]; (try (go_bits; go_simp)); (first | done | with_reducible rfl))))); (try simp only [Act.put, List.setIfInBounds_toArray, List.set_cons_zero, List.set_cons_succ])) | ((refine sch_skip rfl rfl rfl rfl ?_); (try simp only [Act.put, List.setIfInBounds_toArray, List.set_cons_zero, List.set_cons_succ])))
                                    refine sch_nil ?_
                                    go_wp2_with fail
                                    go_meet
                                    exact ⟨HK52.out, HX52.out, HO52.out⟩
                          case rest =>
                            obtain ⟨h16, h17, o4⟩ := hcut
                            obtain ⟨N, hN⟩ : ∃ N, N = max (q + np) dl := ⟨_, rfl⟩
                            have HN := hide hN
                            have hdN : dl ≤ N := by omega
                            have hN6 : N ≤ 65535 := by omega
                            obtain ⟨A1, c1', rfl⟩ := off_shape h16
                            obtain ⟨A2, c2', rfl⟩ := off_shape h17
                            have HT := hide (show RPadAt W3 cc.data cc.hv dl dl (.slice A1 dl c1') (.slice A2 dl c2') wc from ⟨Nat.le_refl _, by rw [Nat.sub_self]; simpa using h16, by rw [Nat.sub_self]; simpa using h17, o4⟩)
                            clear h16 h17 o4 hN f0 f1 f2 f3 f4 f5 f6 f7 ltx
                            go_wp2
                            go_loopw [16, 17] (fun a b wr => ∃ (m : Nat) (A1 : Option Addr) (c1 : Nat) (A2 : Option Addr) (c2 : Nat), a = .slice A1 m c1 ∧ b = .slice A2 m c2 ∧ m ≤ N ∧ Hid (RPadAt W3 cc.data cc.hv dl m (.slice A1 m c1) (.slice A2 m c2) wr)) (fun a _ _ => (q + np) - vlen a)
                            case atStart => exact ⟨dl, A1, c1', A2, c2', rfl, rfl, hdN, HT⟩
                            case round =>
                              obtain ⟨m, A1, c1, A2, c2, rfl, rfl, hmN, HW⟩ := hrel
                              obtain ⟨hdm2, hd, hh, ho⟩ := HW.out
                              rcases Nat.lt_or_ge m (q + np) with hlt | hge
                              · have hlt' : (m : Int) < (q : Int) + (np : Int) := by omega
                                have HM := hide hdm2
                                have HT := hide (show _ ∧ _ ∧ _ from ⟨off_keep hd ((Only.refl [] wr).alloc (.cells #[.int .u8 0] u8T)), off_keep hh ((Only.refl [] wr).alloc (.cells #[.int .u8 0] u8T)), ho.trans ((Only.refl [] wr).alloc (.cells #[.int .u8 0] u8T))⟩)
                                obtain ⟨i1, hi1, hz1, hs1, hb1⟩ := info_parts u8_info1
                                obtain ⟨i2, hi2, hz2, hs2, hb2⟩ := info_parts bool_info1
                                clear hd hh ho hdm2 HW
                                go_wp2_with (at_builtin; refine wpList_append_off _ rfl (.tmp 183) (.tmp 184) 28 rfl u8T i1 (.int .u8 0) 1 1 Try.underlying28 hi1 hz1 hs1 hb1 rfl (by decide) W3.heap.size (.slice A1 m c1) m (bcells (cc.data ++ List.replicate (m - dl) 0)) rfl HT.out.1 HT.out.2.2.size ⟨wr.heap.size, 0, none⟩ 1 1 [.int .u8 0] rfl rfl ?_ (by simp [Value.oneCell']) (by simp only [maxLen]; omega) (by omega) ?_)
                                · intro j u hu
                                  rw [addr_add]
                                  exact ((Blk.newA (c := #[.int .u8 0]) rfl)).cell hu
                                intro v3 w3 hr3 ho3 hv3
                                obtain ⟨h2, h3⟩ := two_fst HT.out.1 HT.out.2.1 HT.out.2.2 hr3 ho3
                                rw [(pad_step (D := cc.data) (H := cc.hv) HM.out).1] at hr3
                                obtain ⟨A3, c3, rfl⟩ := off_shape hr3
                                have HT2 := hide (show _ ∧ _ ∧ _ from ⟨off_keep hr3 ((Only.refl [] w3).alloc (.cells #[.bool false] boolT)), off_keep h2 ((Only.refl [] w3).alloc (.cells #[.bool false] boolT)), h3.trans ((Only.refl [] w3).alloc (.cells #[.bool false] boolT))⟩)
                                clear h2 h3 hr3 ho3 hv3
                                go_wp2_with (at_builtin; refine wpList_append_off _ rfl (.tmp 186) (.tmp 187) 81 rfl boolT i2 (.bool false) 1 1 Try.underlying81 hi2 hz2 hs2 hb2 rfl (by decide) W3.heap.size (.slice A2 m c2) m ((cc.hv ++ List.replicate (m - dl) false).map Value.bool) rfl HT2.out.2.1 HT2.out.2.2.size ⟨w3.heap.size, 0, none⟩ 1 1 [.bool false] rfl rfl ?_ (by simp [Value.oneCell']) (by simp only [maxLen]; omega) (by omega) ?_)
                                · intro j u hu
                                  rw [addr_add]
                                  exact ((Blk.newA (c := #[.bool false]) rfl)).cell hu
                                intro v4 w4 hr4 ho4 hv4
                                obtain ⟨h2, h3⟩ := two_snd HT2.out.1 HT2.out.2.1 HT2.out.2.2 hr4 ho4
                                have e2 := (pad_step (D := cc.data) (H := cc.hv) HM.out).2
                                have hr5 : offRow w4 W3.heap.size boolT 1 v4 (m + 1) ((cc.hv ++ List.replicate (m + 1 - dl) false).map Value.bool) := by rw [← e2]; simpa using hr4
                                clear e2 hr4
                                have hr4 := hr5
                                clear hr5
                                obtain ⟨A4, c4, rfl⟩ := off_shape hr4
                                have HE := hide (show RPadAt W3 cc.data cc.hv dl (m + 1) (.slice A3 (m + 1) c3) (.slice A4 (m + 1) c4) w4 from ⟨by have := HM.out; omega, h2, hr4, h3⟩)
                                clear h2 h3 hr4 ho4 hv4
                                go_wp2
                                go_roundw
                                case rel => exact ⟨m + 1, A3, c3, A4, c4, rfl, rfl, by have := HN.out; omega, HE⟩
                                case measure => simp [vlen]; omega
                              · have hge' : ¬ ((m : Int) < (q : Int) + (np : Int)) := by omega
                                obtain rfl : m = N := by have := HN.out; omega
                                obtain ⟨hp1, hp2⟩ := pad_eq (D := cc.data) (H := cc.hv) (e := q + np) HDL.out.1.symm HDL.out.2 HN.out
                                rw [hp1] at hd
                                rw [hp2] at hh
                                obtain ⟨D, hD⟩ : ∃ D, D = padN (q + np) cc.data := ⟨_, rfl⟩
                                obtain ⟨Hv, hHv⟩ : ∃ H, H = padB (q + np) cc.hv := ⟨_, rfl⟩
                                rw [← hD] at hd
                                rw [← hHv] at hh
                                have HP := hide (show _ ∧ _ ∧ _ from ⟨hd, hh, ho⟩)
                                have HDH := hide (And.intro hD hHv)
                                have HX0 := hide (ho.blk H3.out.2.2.2.2.2.1 (by simp))
                                have HAW3 := hide (show ∀ wy : World, Only [] W3 wy → NumsIn wy .u8 p.A p.data ∧ Blk wy w.heap.size rpktT p.cells from fun wy h => ⟨H3.out.2.2.2.2.2.2.2.far h (by simp), h.blk H3.out.2.2.2.2.2.1 (by simp)⟩)
                                clear hd hh ho hD hHv hp1 hp2 HW
                                go_wp2
                                go_loopw [18] (fun i wr => ∃ t : Nat, t ≤ np ∧ i = .int .i64 t ∧ Hid (TwoRows W3 m (bcells (wrB D Hv q (p.data.take t)).1) ((wrB D Hv q (p.data.take t)).2.map Value.bool) (.slice A1 m c1) (.slice A2 m c2) wr)) (fun i _ => np - (Go.RowKit.intOf i).toNat)
                                case atStart => exact ⟨0, Nat.zero_le _, rfl, hide ⟨HP.out.1, HP.out.2.1, HP.out.2.2⟩⟩
                                case round =>
                                  obtain ⟨t, ht, rfl, HW⟩ := hrel
                                  obtain ⟨hdr, hhr, ho⟩ := HW.out
                                  obtain ⟨hAr, hXr⟩ := HAW3.out wr ho
                                  obtain ⟨f0, f1, f2, f3, f4, f5, f6, f7⟩ := hXr.pkt8r
                                  have ltx := hXr.lt
                                  rw [HQ.out] at f5
                                  rw [← HNP.out] at f7
                                  rcases Nat.lt_or_ge t np with hlt | hge2
                                  · obtain ⟨b, hb⟩ : ∃ x, p.data[t]? = some x := ⟨_, List.getElem?_eq_getElem (by rw [← HNP.out]; exact hlt)⟩
                                    obtain ⟨g1, o1, hpA, hcb⟩ := hAr t b hb
                                    have hNq : q + t < m := by omega
                                    obtain ⟨gd, od, cd', csd, hvd, hBd, -, -⟩ := off_blk hdr (by omega)
                                    injection hvd with h1 h2 h3
                                    subst h1 h3
                                    obtain ⟨gh, oh, ch', csh, hvh, hBh, -, -⟩ := off_blk hhr (by omega)
                                    injection hvh with h1 h2 h3
                                    subst h1 h3
                                    obtain ⟨R, hR⟩ : ∃ R, R = wrB D Hv q (p.data.take t) := ⟨_, rfl⟩
                                    rw [← hR] at hdr hhr
                                    have hsn := wrB_snoc (p.data.take t) D Hv q b
                                    have htk : p.data.take t ++ [b] = p.data.take (t + 1) := by rw [List.take_add_one, hb]; rfl
                                    have hlk : (p.data.take t).length = t := by rw [List.length_take, ← HNP.out]; omega
                                    rw [htk, hlk, ← hR] at hsn
                                    have hl2' : R.2.length = m := by have := hhr.1; simpa using this
                                    obtain ⟨bq, hbq⟩ : ∃ bq, R.2[q + t]? = some bq := ⟨_, List.getElem?_eq_getElem (by rw [hl2']; exact hNq)⟩
                                    have hgd : R.2.getD (q + t) false = bq := by rw [List.getD_eq_getElem?_getD, hbq]; rfl
                                    rw [hgd] at hsn
                                    have hch := off_cells hhr rfl (q + t) (.bool bq) (by rw [List.getElem?_map, hbq]; rfl)
                                    obtain ⟨bd, hbd⟩ : ∃ bd, R.1[q + t]? = some bd := ⟨_, List.getElem?_eq_getElem (by have := hdr.1; simp [bcells] at this; omega)⟩
                                    have hcd := off_cells hdr rfl (q + t) (.int .u8 bd) (bcells_at hbd)
                                    have ltd := hBd.lt
                                    have lth := hBh.lt
                                    have fzd := hBd.frozen (od + (q + t))
                                    have fzh := hBh.frozen (oh + (q + t))
                                    have ndh : gd ≠ gh := fun h => absurd rfl (hBd.ne (h ▸ hBh) (by decide))
                                    have hch2 : (wr.setCell ⟨gd, od + (q + t), none⟩ (.int .u8 (b : Int))).drew.cell? ⟨gh, oh + (q + t), none⟩ = some (.bool bq) := off_cells (off_set hhr (p := ⟨gd, od + (q + t), none⟩) (by simpa [Value.ownBlock] using ndh.symm) (.int .u8 (b : Int))) rfl (q + t) (.bool bq) (by rw [List.getElem?_map, hbq]; rfl)
                                    have fzh2 : (wr.setCell ⟨gd, od + (q + t), none⟩ (.int .u8 (b : Int))).drew.frozen? ⟨gh, oh + (q + t), none⟩ = false := (hBh.far (p := ⟨gd, od + (q + t), none⟩) (by simpa using ndh.symm) (.int .u8 (b : Int))).frozen (oh + (q + t))
                                    have hXn : w.heap.size ≠ gd := fun h => absurd rfl (hXr.ne (h ▸ hBd) (by decide))
                                    have f5b : (wr.drew.setCell ⟨gd, od + (q + t), none⟩ (.int .u8 (b : Int))).cell? ⟨w.heap.size, 5, none⟩ = some (.int .i64 (q : Int)) := by rw [← HQ.out]; exact (hXr.drew.far (p := ⟨gd, od + (q + t), none⟩) (by simpa using hXn) (.int .u8 (b : Int))).cell (i := 5) rfl
                                    have HSN := hide hsn
                                    have HR := hide (show _ ∧ _ ∧ _ ∧ _ ∧ _ from ⟨hdr, hhr, ho, hBd, hBh⟩)
                                    have s1 : IntKind.i64.wrap ((q : Int) + (t : Int)) = (q : Int) + (t : Int) := by simp [IntKind.wrap, IntKind.bits, IntKind.signed]; omega
                                    have i0 : (0 : Int) ≤ (q : Int) + (t : Int) := by omega
                                    have i1 : (q : Int) + (t : Int) < (m : Int) := by omega
                                    have it : ((q : Int) + (t : Int)).toNat = q + t := by omega
                                    clear hb hdr hhr ho hAr hXr hBd hBh hR hsn htk hlk hl2' hbq hgd hbd
                                    rw [hpA] at f7
                                    cases bq with
                                    | true =>
                                      go_wp2
                                      go_roundw
                                      case rel =>
                                        refine ⟨t + 1, by omega, by go_num, hide ⟨?_, ?_, HR.out.2.2.1⟩⟩
                                        · rw [HSN.out, if_pos rfl]; exact HR.out.1
                                        · rw [HSN.out, if_pos rfl]; exact HR.out.2.1
                                      case measure => simp [Go.RowKit.intOf]; omega
                                    | false =>
                                      go_wp2
                                      refine wp_region_text 18 [16] [5, 6, 8, 9] [7] (fun w' => w'.cell? ⟨w.heap.size, 5, none⟩ = some (.int .i64 (q : Int))) (by kernel_rfl) (by kernel_rfl) (by go_simp) ?_
                                      simp only [List.take_succ_cons, List.take_zero, List.drop_succ_cons, List.drop_zero]
                                      repeat (first | ((refine wpText_h rfl rfl ?_; apply Exists.intro; refine ⟨?_, ?_⟩; next => (go_simp; (try (go_bits; go_simp)); (first | done | with_reducible rfl | (rw [if_neg (by omega)]; (try (go_bits; go_simp)); (first | done | with_reducible rfl)) | (rw [if_pos (by omega)]; (try (go_bits; go_simp)); (first | done | with_reducible rfl))))); (try simp only [Act.put, List.setIfInBounds_toArray, List.set_cons_zero, List.set_cons_succ])) | ((refine wpText_p rfl rfl ?_; apply Exists.intro; refine ⟨?_, ?_⟩; next => (intro w'; go_simp; (try (go_bits; go_simp)); (first | done | with_reducible rfl | (rw [if_neg (by omega)]; (try (go_bits; go_simp)); (first | done | with_reducible rfl)) | (rw [if_pos (by omega)]; (try (go_bits; go_simp)); (first | done | with_reducible rfl))))); (try simp only [Act.put, List.setIfInBounds_toArray, List.set_cons_zero, List.set_cons_succ])) | ((refine wpText_y rfl rfl ?_; apply Exists.intro; refine ⟨?_, ?_⟩; next => (intro w' hS; (first | obtain ⟨_, rfl⟩ := hS | skip); go_simp; (try (go_bits; go_simp)); (first | done | with_reducible rfl | (rw [if_neg (by omega)]; (try (go_bits; go_simp)); (first | done | with_reducible rfl)) | (rw [if_pos (by omega)]; (try (go_bits; go_simp)); (first | done | with_reducible rfl))))); (try simp only [Act.put, List.setIfInBounds_toArray, List.set_cons_zero, List.set_cons_succ])) | (refine wpText_skip (by first | exact .inl rfl | exact .inr (.inl rfl) | exact .inr (.inr rfl)) rfl ?_; (try simp only [Act.put, List.setIfInBounds_toArray, List.set_cons_zero, List.set_cons_succ])))
                                      refine wpText_e rfl rfl (fun K hK => ?_)
                                      go_wp2
                                      refine hK _ _ f5b ?_
                                      clear hK K
                                      try simp only [Act.put, List.setIfInBounds_toArray, List.set_cons_zero, List.set_cons_succ]
                                      repeat (first | ((refine wpText_h rfl rfl ?_; apply Exists.intro; refine ⟨?_, ?_⟩; next => (go_simp; (try (go_bits; go_simp)); (first | done | with_reducible rfl | (rw [if_neg (by omega)]; (try (go_bits; go_simp)); (first | done | with_reducible rfl)) | (rw [if_pos (by omega)]; (try (go_bits; go_simp)); (first | done | with_reducible rfl))))); (try simp only [Act.put, List.setIfInBounds_toArray, List.set_cons_zero, List.set_cons_succ])) | ((refine wpText_p rfl rfl ?_; apply Exists.intro; refine ⟨?_, ?_⟩; next => (intro w'; go_simp; (try (go_bits; go_simp)); (first | done | with_reducible rfl | (rw [if_neg (by omega)]; (try (go_bits; go_simp)); (first | done | with_reducible rfl)) | (rw [if_pos (by omega)]; (try (go_bits; go_simp)); (first | done | with_reducible rfl))))); (try simp only [Act.put, List.setIfInBounds_toArray, List.set_cons_zero, List.set_cons_succ])) | ((refine wpText_y rfl rfl ?_; apply Exists.intro; refine ⟨?_, ?_⟩; next => (intro w' hS; (first | obtain ⟨_, rfl⟩ := hS | skip); go_simp; (try (go_bits; go_simp)); (first | done | with_reducible rfl | (rw [if_neg (by omega)]; (try (go_bits; go_simp)); (first | done | with_reducible rfl)) | (rw [if_pos (by omega)]; (try (go_bits; go_simp)); (first | done | with_reducible rfl))))); (try simp only [Act.put, List.setIfInBounds_toArray, List.set_cons_zero, List.set_cons_succ])) | (refine wpText_skip (by first | exact .inl rfl | exact .inr (.inl rfl) | exact .inr (.inr rfl)) rfl ?_; (try simp only [Act.put, List.setIfInBounds_toArray, List.set_cons_zero, List.set_cons_succ])))
                                      refine wpText_nil ?_
                                      go_wp2
                                      refine NoX.normal ?_
                                      go_wp2
                                      rw [← hpA]
                                      go_roundw
                                      case rel =>
                                        refine ⟨t + 1, by omega, by go_num, hide ⟨?_, ?_, ?_⟩⟩
                                        · rw [HSN.out, if_neg (by decide)]
                                          have h1 := off_setIn (off_keep HR.out.1 (Only.refl [] wr).drew) rfl (p := q + t) (by omega) (.int .u8 (b : Int))
                                          rw [bcells_set]
                                          exact off_set h1 (by simpa [Value.ownBlock] using ndh) _
                                        · rw [HSN.out, if_neg (by decide)]
                                          have h1 := off_set (off_keep HR.out.2.1 (Only.refl [] wr).drew) (p := ⟨gd, od + (q + t), none⟩) (by simpa [Value.ownBlock] using ndh.symm) (.int .u8 (b : Int))
                                          have h2 := off_setIn h1 rfl (p := q + t) (by omega) (.bool true)
                                          rw [List.map_set]
                                          exact h2
                                        · exact (HR.out.2.2.1.drew.set (p := ⟨gd, od + (q + t), none⟩) (.inr (off_ge HR.out.1 _ rfl).1) _).set (p := ⟨gh, oh + (q + t), none⟩) (.inr (off_ge HR.out.2.1 _ rfl).1) _
                                      case measure => simp [Go.RowKit.intOf]; omega
                                  · obtain rfl : t = np := by omega
                                    have htk : p.data.take t = p.data := List.take_of_length_le (by rw [← HNP.out]; exact Nat.le_refl _)
                                    have hqo : q = p.off.toNat := by rw [HQ.out]; rfl
                                    have hw1 : wrB D Hv q p.data = wrC cc p p.data := by unfold wrC; rw [HEP.out, ← hqo, HDH.out.1, HDH.out.2]
                                    rw [htk, hw1] at hdr hhr
                                    have hlD : (wrC cc p p.data).1.length = m := by have := hdr.1; simpa [bcells] using this
                                    have hlH : (wrC cc p p.data).2.length = m := by have := hhr.1; simpa using this
                                    have hrw := off_keep H3.out.2.1 ho
                                    obtain ⟨gq, oq, cq, csq, hvq, hBg, -, -⟩ := off_blk hrw (by omega)
                                    injection hvq with e1 e2 e3
                                    injection e1 with e1
                                    injection e1 with e1 e4
                                    subst e1 e3 e4
                                    obtain ⟨z1, hz1⟩ : ∃ z : RP, z = ⟨.slice Ad dl cd, .slice Ah dl ch, { cc with cnt := cc.cnt + 1 }⟩ := ⟨_, rfl⟩
                                    obtain ⟨z2, hz2⟩ : ∃ z : RP, z = ⟨.slice A1 m c1, .slice Ah dl ch, { cc with cnt := cc.cnt + 1 }⟩ := ⟨_, rfl⟩
                                    obtain ⟨z3, hz3⟩ : ∃ z : RP, z = ⟨.slice A1 m c1, .slice A2 m c2, { cc with cnt := cc.cnt + 1 }⟩ := ⟨_, rfl⟩
                                    rw [← hz1] at hrw
                                    have hll' : ∀ z : RP, (l2.set k2 z).length = n := fun z => by rw [List.length_set]; exact HC.out.2.1.symm
                                    have hgz : ∀ z : RP, (l2.set k2 z)[k2]? = some z := fun z => List.getElem?_set_self (by rw [← HC.out.2.1]; exact hk2)
                                    have hr4 := row_set hrw (hll' _) (hgz _) (z' := z2) 9 (.slice A1 m c1) (by rw [hz1, hz2]; rfl) (by decide)
                                    rw [List.set_set] at hr4
                                    have hr5 := row_set hr4 (hll' _) (hgz _) (z' := z3) 10 (.slice A2 m c2) (by rw [hz2, hz3]; rfl) (by decide)
                                    rw [List.set_set] at hr5
                                    have d9 := row_cells hrw (hgz _) 9 _ (by rw [hz1]; rfl)
                                    have z9 := hBg.frozen (o + k2 * 13 + 9)
                                    have d10 := row_cells hr4 (hgz _) 10 _ (by rw [hz2]; rfl)
                                    have z10 := (hBg.set (o + k2 * 13 + 9) (.slice A1 m c1)).frozen (o + k2 * 13 + 10)
                                    have ltg := hBg.lt
                                    obtain ⟨W6, hW6⟩ : ∃ W, W = (wr.setCell ⟨g, o + k2 * 13 + 9, none⟩ (.slice A1 m c1)).setCell ⟨g, o + k2 * 13 + 10, none⟩ (.slice A2 m c2) := ⟨_, rfl⟩
                                    have o6 : Only [g] wr W6 := by rw [hW6]; exact ((Only.refl _ _).set (p := ⟨g, o + k2 * 13 + 9, none⟩) (.inl (by simp)) _).set (p := ⟨g, o + k2 * 13 + 10, none⟩) (.inl (by simp)) _
                                    rw [← hW6] at hr5
                                    have hB6 : ∃ cs, Blk W6 g rcolT cs := by rw [hW6]; exact ⟨_, (hBg.set _ _).set _ _⟩
                                    have hng : ∀ {k T cs}, Blk wr k T cs → T ≠ rcolT → k ∉ [g] := fun h hT => by simpa using h.ne hBg hT
                                    have hd6 := off_only hdr o6 (fun j hj => by obtain ⟨cs, hb⟩ := offT' hdr hj; exact hng hb (by decide))
                                    have hh6 := off_only hhr o6 (fun j hj => by obtain ⟨cs, hb⟩ := offT' hhr hj; exact hng hb (by decide))
                                    have H6 := hide (show _ ∧ _ ∧ _ ∧ _ ∧ _ ∧ _ ∧ _ from ⟨hr5, (ho.mono (S' := [g]) (by simp)).trans o6, hd6, hh6, o6.blk hXr (hng hXr (by decide)), o6.blk (ho.blk H3.out.2.2.2.2.2.2.1 (by simp)) (hng (ho.blk H3.out.2.2.2.2.2.2.1 (by simp)) (by decide)), hB6⟩)
                                    have HW6 := hide hW6
                                    have HZ3 := hide hz3
                                    have HLD := hide (show _ ∧ _ ∧ _ ∧ _ from ⟨hlD, hlH, hll', hgz⟩)
                                    clear htk hqo hw1 hlD hlH hrw hBg e2 hz1 hz2 hz3 hll' hgz hr4 hr5 o6 hB6 hng hd6 hh6 hdr hhr ho hAr hXr hW6 HW ht
                                    go_upto_region 43 with (fail)
                                    rw [show (wr.setCell ⟨g, o + k2 * 13 + 9, none⟩ (.slice A1 m c1)).setCell ⟨g, o + k2 * 13 + 10, none⟩ (.slice A2 m c2) = W6 from HW6.out.symm]
                                    clear d9 z9 d10 z10 ltg f0 f1 f2 f3 f4 f5 f6 f7 ltx
                                    have f6 := H6.out.2.2.2.2.1.cell (i := 6) rfl
                                    have ltx := H6.out.2.2.2.2.1.lt
                                    have d11 := row_cells H6.out.1 (HLD.out.2.2.2 _) 11 (I64 cc.len) (by rw [HZ3.out]; rfl)
                                    obtain ⟨cs6, hB6⟩ := H6.out.2.2.2.2.2.2
                                    have z11 := hB6.frozen (o + k2 * 13 + 11)
                                    have ltg := hB6.lt
                                    clear hB6
                                    obtain ⟨z4, hz4⟩ : ∃ z : RP, z = ⟨.slice A1 m c1, .slice A2 m c2, stepC cc p⟩ := ⟨_, rfl⟩
                                    have HZ4 := hide hz4
                                    clear hz4
                                    obtain ⟨bb, hbb⟩ : ∃ b, b = decide (p.more = false ∧ cc.len < 0) := ⟨_, rfl⟩
                                    have HBB := hide hbb
                                    clear hbb
                                    go_cut [238] from 229 to 238 (fun s wx => s = .bool bb ∧ W6 = wx)
                                    case first =>
                                      rcases Bool.eq_false_or_eq_true p.more with hmo | hmo
                                      · rw [hmo] at f6
                                        have HBT := hide (show bb = false by rw [HBB.out, hmo]; simp)
                                        clear hmo
                                        go_wp2
                                        go_meet
                                        exact ⟨by rw [HBT.out], rfl⟩
                                      · rw [hmo] at f6
                                        by_cases hl : cc.len < 0
                                        · have HBT := hide (show bb = true by rw [HBB.out, hmo]; simp [hl])
                                          clear hmo
                                          go_wp2
                                          go_meet
                                          exact ⟨by rw [HBT.out], rfl⟩
                                        · have HBT := hide (show bb = false by rw [HBB.out, hmo]; simp; omega)
                                          clear hmo
                                          go_wp2
                                          go_meet
                                          exact ⟨by rw [HBT.out], rfl⟩
                                    rotate_left 0
                                    obtain ⟨rfl, rfl⟩ := hcut
                                    go_upto_if 238 with (fail)
                                    go_cut [] from 238 to 238 (fun wx => offRow wx base rcolT 13 (.slice (some ⟨g, o, none⟩) n c) n ((l2.set k2 z4).flatMap rcc) ∧ Only [g] W6 wx)
                                    case first =>
                                      have HLN := hide (show (stepC cc p).len = if p.more = false ∧ cc.len < 0 then ((q + t : Nat) : Int) else cc.len by unfold stepC; rw [HEP.out])
                                      have HSAME := hide (show (stepC cc p).len = cc.len → rcc z4 = rcc z3 from fun h => by rw [HZ4.out, HZ3.out]; unfold rcc; simp only; rw [h]; rfl)
                                      cases bb with
                                      | false =>
                                        have HNB := hide (show ¬ (p.more = false ∧ cc.len < 0) from of_decide_eq_false HBB.out.symm)
                                        go_wp2
                                        go_meet
                                        rw [flat_set_eq (HSAME.out (by rw [HLN.out, if_neg HNB.out]))]
                                        exact ⟨H6.out.1, Only.refl _ _⟩
                                      | true =>
                                        have HNB := hide (show p.more = false ∧ cc.len < 0 from of_decide_eq_true HBB.out.symm)
                                        go_wp2
                                        go_meet
                                        have h1 := row_set H6.out.1 (HLD.out.2.2.1 _) (HLD.out.2.2.2 _) (z' := z4) 11 (I64 ((q : Int) + (t : Int))) (by
                                          have h2 : (stepC cc p).len = (q : Int) + (t : Int) := by rw [HLN.out, if_pos HNB.out]; simp
                                          rw [HZ4.out, HZ3.out]
                                          unfold rcc
                                          simp only [List.set_cons_succ, List.set_cons_zero]
                                          rw [h2]
                                          rfl) (by decide)
                                        rw [List.set_set] at h1
                                        exact ⟨h1, (Only.refl _ _).set (p := ⟨g, o + k2 * 13 + 11, none⟩) (.inl (by simp)) _⟩
                                    case rest =>
                                      obtain ⟨hr7, o7⟩ := hcut
                                      clear f6 ltx d11 z11 ltg
                                      have o67 : Only [g] W3 wc := H6.out.2.1.trans o7
                                      have hg6 : ∀ {k T cs}, Blk W6 k T cs → T ≠ rcolT → k ∉ [g] := fun h hT => by
                                        obtain ⟨cs6, hB6⟩ := H6.out.2.2.2.2.2.2
                                        simpa using h.ne hB6 hT
                                      have hd7 := off_only H6.out.2.2.1 o7 (fun j hj => by obtain ⟨cs, hb⟩ := offT' H6.out.2.2.1 hj; exact hg6 hb (by decide))
                                      have hh7 := off_only H6.out.2.2.2.1 o7 (fun j hj => by obtain ⟨cs, hb⟩ := offT' H6.out.2.2.2.1 hj; exact hg6 hb (by decide))
                                      have hb3 : base ≤ W3.heap.size := Nat.le_trans HBW.out HO3.out.size
                                      have hRR : RrAt base r wc now (l2.set k2 z4) (.slice (some ⟨g, o, none⟩) n c) := by
                                        refine ⟨o67.blk H3.out.2.2.1 (by simpa using HC.out.2.2.2.2.2.symm), by rw [HLD.out.2.2.1]; exact hr7, ?_, HH.out.rb⟩
                                        intro z hz
                                        rcases List.mem_or_eq_of_mem_set hz with h1 | h1
                                        · exact (HCOLS.out z h1).onlyK o67 (fun q2 hq2 _ => by obtain rfl := List.mem_singleton.1 hq2; obtain ⟨cs, hb⟩ := HB3.out; exact ⟨_, _, hb, by decide, by decide⟩)
                                        · subst h1
                                          rw [HZ4.out]
                                          constructor
                                          · show offRow wc base u8T 1 (.slice A1 m c1) (wrC cc p p.data).1.length (bcells (wrC cc p p.data).1)
                                            rw [HLD.out.1]
                                            exact off_base hd7 hb3
                                          · show offRow wc base boolT 1 (.slice A2 m c2) (wrC cc p p.data).1.length ((wrC cc p p.data).2.map Value.bool)
                                            rw [HLD.out.1]
                                            exact off_base hh7 hb3
                                      have hft7 : ∀ j ∈ rfoot r (l2.set k2 z4) (.slice (some ⟨g, o, none⟩) n c), j ∈ rfoot r l va ∨ w.heap.size ≤ j := by
                                        intro j hj
                                        rcases mem_rfoot.1 hj with h1 | h1 | ⟨z, hz, h1⟩
                                        · exact HC.out.2.2.1 j (mem_rfoot.2 (.inl h1))
                                        · exact HC.out.2.2.1 j (mem_rfoot.2 (.inr (.inl h1)))
                                        · rcases List.mem_or_eq_of_mem_set hz with h2 | h2
                                          · exact HC.out.2.2.1 j (mem_rfoot.2 (.inr (.inr ⟨z, h2, h1⟩)))
                                          · subst h2
                                            rw [HZ4.out] at h1
                                            rcases h1 with h3 | h3
                                            · exact .inr (Nat.le_trans HO3.out.size (off_ge hd7 j h3).1)
                                            · exact .inr (Nat.le_trans HO3.out.size (off_ge hh7 j h3).1)
                                      have hot : Only (r :: va.ownBlock.toList) w wc := HO3.out.trans' o67 (by
                                        intro j hj hlt
                                        obtain rfl := List.mem_singleton.1 hj
                                        rcases HGV.out with h1 | h1
                                        · exact List.mem_cons_of_mem _ (mem_own.2 h1)
                                        · omega)
                                      have H7 := hide (show _ ∧ _ ∧ _ ∧ _ ∧ _ ∧ _ ∧ _ ∧ _ from ⟨hRR, o7.blk H6.out.2.2.2.2.1 (hg6 H6.out.2.2.2.2.1 (by decide)), o7.blk H6.out.2.2.2.2.2.1 (hg6 H6.out.2.2.2.2.2.1 (by decide)), hot, hft7, hd7, hh7, hr7⟩)
                                      obtain ⟨L, hL⟩ : ∃ L, L = (stepC cc p).len := ⟨_, rfl⟩
                                      have d11 := row_cells hr7 (HLD.out.2.2.2 _) 11 (I64 (stepC cc p).len) (by rw [HZ4.out]; rfl)
                                      have d10 := row_cells hr7 (HLD.out.2.2.2 _) 10 (.slice A2 m c2) (by rw [HZ4.out]; rfl)
                                      rw [← hL] at d11
                                      have ltg : g < wc.heap.size := (off_ge hr7 g rfl).2
                                      have HLN := hide hL
                                      have HM := hide (show m ≤ 65535 from hN6)
                                      clear o67 hg6 hd7 hh7 hb3 hRR hft7 hot hr7 o7 hL
                                      by_cases hneg : L < 0
                                      · have HM6 := hide (HM5.out.trans (if_neg (by unfold doneB; rw [decide_eq_true_iff]; rintro ⟨h1, -⟩; rw [← HLN.out] at h1; omega)))
                                        go_wp2_with (refine wpList_store_cells rfl rpktT (.tmp 6) (.tmp 248) rfl (w.heap.size + 1) 0 rfl zsP rfl rpktT zsP H7.out.2.2.1 (by exact Nat.le_refl _) (by kernel_rfl) (by simp [Value.oneCell']) ?_; intro v1 hw3)
                                        refine bodyPost_ret (results_cell_tmp2 rfl _ _ _ rfl (load_rpkt (p := zeroP) (Blk.to hw3.1 (by rfl)))) rfl ?_
                                        rw [HM6.out]
                                        refine ⟨none, 0, l2.set k2 z4, .slice (some ⟨g, o, none⟩) n c, rfl, fun k x hx => by simp [zeroP] at hx, ?_, H7.out.1.offz H7.out.2.2.1 hw3.2.1, H7.out.2.2.2.1.trans' hw3.2.1 (by intro i hi hlt; simp at hi; omega), H7.out.2.2.2.2.1⟩
                                        show (l2.set k2 z4).map _ = (l2.map _).set k2 (stepC cc p)
                                        rw [List.map_set, HZ4.out]
                                      · obtain ⟨mm, rfl⟩ : ∃ mm : Nat, L = (mm : Int) := ⟨L.toNat, by omega⟩
                                        clear hneg
                                        go_wp2
                                        go_loopw [19] (fun i wr => ∃ u : Nat, u ≤ mm ∧ u ≤ m ∧ i = .int .i64 u ∧ wr = wc ∧ Hid (∀ j, j < u → (wrC cc p p.data).2[j]? = some true)) (fun i _ => mm - (Go.RowKit.intOf i).toNat)
                                        case atStart => exact ⟨0, Nat.zero_le _, Nat.zero_le _, rfl, rfl, hide (by intro j hj; omega)⟩
                                        case round =>
                                          obtain ⟨u, hu, hum, rfl, rfl, HJ⟩ := hrel
                                          rcases Nat.lt_or_ge u mm with hlt | hge2
                                          · by_cases hux : u < m
                                            · obtain ⟨b, hb⟩ : ∃ b, (wrC cc p p.data).2[u]? = some b := ⟨_, List.getElem?_eq_getElem (by rw [HLD.out.2.1]; exact hux)⟩
                                              obtain ⟨gh, oh, ch', csh, hvh, hBh, -, -⟩ := off_blk H7.out.2.2.2.2.2.2.1 (by omega)
                                              injection hvh with h1 h2 h3
                                              subst h1 h3
                                              have hch := off_cells H7.out.2.2.2.2.2.2.1 rfl u (.bool b) (by rw [List.getElem?_map, hb]; rfl)
                                              have lth := hBh.lt
                                              have HBU := hide hb
                                              clear hb hBh h2
                                              cases b with
                                              | true =>
                                                have HJ2 := hide (show ∀ j, j < u + 1 → (wrC cc p p.data).2[j]? = some true from fun j hj => by
                                                  rcases Nat.lt_or_ge j u with h1 | h1
                                                  · exact HJ.out j h1
                                                  · obtain rfl : j = u := by omega
                                                    exact HBU.out)
                                                go_wp2
                                                go_roundw
                                                case rel => exact ⟨u + 1, by omega, by omega, by go_num, trivial, HJ2⟩
                                                case measure => simp [Go.RowKit.intOf]; omega
                                              | false =>
                                                have HM6 := hide (HM5.out.trans (if_neg (by
                                                  unfold doneB
                                                  rw [decide_eq_true_iff]
                                                  rintro ⟨-, -, h3⟩
                                                  rw [← HLN.out] at h3
                                                  exact h3 (List.mem_of_getElem? (i := u) (by
                                                    show ((wrC cc p p.data).2.take _)[u]? = some false
                                                    rw [List.getElem?_take, if_pos (by simp; omega)]
                                                    exact HBU.out)))))
                                                go_wp2_with (refine wpList_store_cells rfl rpktT (.tmp 6) (.tmp 274) rfl (w.heap.size + 1) 0 rfl zsP rfl rpktT zsP H7.out.2.2.1 (by exact Nat.le_refl _) (by kernel_rfl) (by simp [Value.oneCell']) ?_; intro v1 hw3)
                                                refine bodyPost_ret (results_cell_tmp2 rfl _ _ _ rfl (load_rpkt (p := zeroP) (Blk.to hw3.1 (by rfl)))) rfl ?_
                                                rw [HM6.out]
                                                refine ⟨none, 0, l2.set k2 z4, .slice (some ⟨g, o, none⟩) n c, rfl, fun k x hx => by simp [zeroP] at hx, ?_, H7.out.1.offz H7.out.2.2.1 hw3.2.1, H7.out.2.2.2.1.trans' hw3.2.1 (by intro i hi hlt; simp at hi; omega), H7.out.2.2.2.2.1⟩
                                                show (l2.set k2 z4).map _ = (l2.map _).set k2 (stepC cc p)
                                                rw [List.map_set, HZ4.out]
                                            · have HM6 := hide (HM5.out.trans (if_neg (by
                                                unfold doneB
                                                rw [decide_eq_true_iff]
                                                rintro ⟨-, h2, -⟩
                                                rw [← HLN.out] at h2
                                                have h3 : ((mm : Nat) : Int) ≤ ((wrC cc p p.data).1.length : Int) := h2
                                                rw [HLD.out.1] at h3
                                                omega)))
                                              have hum2 : ¬ ((u : Int) < (m : Int)) := by omega
                                              go_wp2_with (refine wpList_store_cells rfl rpktT (.tmp 6) (.tmp 274) rfl (w.heap.size + 1) 0 rfl zsP rfl rpktT zsP H7.out.2.2.1 (by exact Nat.le_refl _) (by kernel_rfl) (by simp [Value.oneCell']) ?_; intro v1 hw3)
                                              refine bodyPost_ret (results_cell_tmp2 rfl _ _ _ rfl (load_rpkt (p := zeroP) (Blk.to hw3.1 (by rfl)))) rfl ?_
                                              rw [HM6.out]
                                              refine ⟨none, 0, l2.set k2 z4, .slice (some ⟨g, o, none⟩) n c, rfl, fun k x hx => by simp [zeroP] at hx, ?_, H7.out.1.offz H7.out.2.2.1 hw3.2.1, H7.out.2.2.2.1.trans' hw3.2.1 (by intro i hi hlt; simp at hi; omega), H7.out.2.2.2.2.1⟩
                                              show (l2.set k2 z4).map _ = (l2.map _).set k2 (stepC cc p)
                                              rw [List.map_set, HZ4.out]
                                          · obtain rfl : u = mm := by omega
                                            have HM6 := hide (HM5.out.trans (if_pos (by
                                              unfold doneB
                                              rw [decide_eq_true_iff, ← HLN.out]
                                              refine ⟨by omega, ?_, ?_⟩
                                              · show ((u : Nat) : Int) ≤ ((wrC cc p p.data).1.length : Int)
                                                rw [HLD.out.1]
                                                omega
                                              · intro h
                                                obtain ⟨j, hj, e⟩ := List.getElem_of_mem h
                                                have e2 : ((stepC cc p).hv.take (u : Int).toNat)[j]? = some false := by rw [List.getElem?_eq_getElem hj, e]
                                                rw [List.getElem?_take] at e2
                                                split at e2
                                                · rename_i hju
                                                  have h1 := HJ.out j (by simpa using hju)
                                                  rw [show (stepC cc p).hv = (wrC cc p p.data).2 from rfl, h1] at e2
                                                  injection e2 with e2
                                                  cases e2
                                                · cases e2)))
                                            have hr8 := H7.out.2.2.2.2.2.2.2
                                            have y0 := row_cells hr8 (HLD.out.2.2.2 _) 0 (.int .u32 cc.h.src) (by rw [HZ4.out]; rfl)
                                            rw [Nat.add_zero] at y0
                                            have y1 := row_cells hr8 (HLD.out.2.2.2 _) 1 (.int .u32 cc.h.dst) (by rw [HZ4.out]; rfl)
                                            have y2 := row_cells hr8 (HLD.out.2.2.2 _) 2 (I64 cc.h.proto) (by rw [HZ4.out]; rfl)
                                            have y3 := row_cells hr8 (HLD.out.2.2.2 _) 3 (I64 cc.h.ttl) (by rw [HZ4.out]; rfl)
                                            have y4 := row_cells hr8 (HLD.out.2.2.2 _) 4 (I64 cc.h.id) (by rw [HZ4.out]; rfl)
                                            have y5 := row_cells hr8 (HLD.out.2.2.2 _) 5 (I64 cc.h.off) (by rw [HZ4.out]; rfl)
                                            have y6 := row_cells hr8 (HLD.out.2.2.2 _) 6 (.bool cc.h.more) (by rw [HZ4.out]; rfl)
                                            have y7 := row_cells hr8 (HLD.out.2.2.2 _) 7 (.slice none 0 0) (by rw [HZ4.out]; rfl)
                                            clear hr8 HJ
                                            go_upto_region 53 with (fail)
                                            obtain ⟨W7, hW7⟩ : ∃ W, W = wr.alloc (.cells #[.int .u32 cc.h.src, .int .u32 cc.h.dst, I64 cc.h.proto, I64 cc.h.ttl, I64 cc.h.id, I64 cc.h.off, .bool cc.h.more, .slice none 0 0] rpktT) := ⟨_, rfl⟩
                                            rw [show wr.alloc (.cells #[.int .u32 cc.h.src, .int .u32 cc.h.dst, I64 cc.h.proto, I64 cc.h.ttl, I64 cc.h.id, I64 cc.h.off, .bool cc.h.more, .slice none 0 0] rpktT) = W7 from hW7.symm]
                                            obtain ⟨kb, hkb⟩ : ∃ k, k = wr.heap.size := ⟨_, rfl⟩
                                            have hB7 : Blk W7 kb rpktT [.int .u32 cc.h.src, .int .u32 cc.h.dst, I64 cc.h.proto, I64 cc.h.ttl, I64 cc.h.id, I64 cc.h.off, .bool cc.h.more, .slice none 0 0] := by rw [hW7, hkb]; exact Blk.newA rfl
                                            have o7 : Only [] wr W7 := by rw [hW7]; exact (Only.refl [] wr).alloc _
                                            rw [← hkb]
                                            have hkr : w.heap.size ≤ kb ∧ kb ≠ w.heap.size + 1 := ⟨by rw [hkb]; exact H7.out.2.2.2.1.size, by have := H7.out.2.2.1.lt; omega⟩
                                            have hr7 := off_keep H7.out.2.2.2.2.2.2.2 o7
                                            have hcp : m ≤ c1 := by
                                              rcases H7.out.2.2.2.2.2.1.2 with ⟨e1, e2⟩ | ⟨g9, o9, cap', cs, e1, -, -, hc, -⟩
                                              · omega
                                              · injection e1 with e1 e2 e3; omega
                                            have H8 := hide (show _ ∧ _ ∧ _ ∧ _ from ⟨hB7, o7, hr7, hkr⟩)
                                            have HW7 := hide hW7
                                            have HKB := hide hkb
                                            clear y0 y1 y2 y3 y4 y5 y6 y7 d10 d11 ltg hB7 o7 hr7 hW7 hkb hkr
                                            have HO1 := hide (show Only [] W7 (W7.alloc (.cells #[] u8T)).drew from ((Only.refl [] W7).alloc _).drew)
                                            have HM1 := hide (show offRow (W7.alloc (.cells #[] u8T)).drew W7.heap.size u8T 1 (.slice (some ⟨W7.heap.size, 0, none⟩) 0 0) 0 [] from off_made (w := W7.drew) (Nat.le_refl _) rfl)
                                            have HS53 := hide (show ∀ W : World, Only [] W7 W → (fun w' => w'.cell? ⟨g, o + k2 * 13 + 9, none⟩ = some (.slice A1 m c1) ∧ w'.cell? ⟨g, o + k2 * 13 + 11, none⟩ = some (.int .i64 (u : Int))) W from fun W hW => by
                                              have h1 := off_keep H8.out.2.2.1 hW
                                              exact ⟨row_cells h1 (HLD.out.2.2.2 _) 9 (.slice A1 m c1) (by rw [HZ4.out]; rfl), row_cells h1 (HLD.out.2.2.2 _) 11 (I64 (u : Int)) (by rw [HZ4.out, HLN.out]; rfl)⟩)
                                            obtain ⟨d9, d11⟩ := HS53.out W7 (Only.refl _ _)
                                            have ltg : g < W7.heap.size := (off_ge H8.out.2.2.1 g rfl).2
                                            have m0 : (0 : Int) ≤ (u : Int) := by omega
                                            have m1 : ((u : Nat) : Int) ≤ ((c1 : Nat) : Int) := by omega
                                            have m2 : u ≤ c1 := by omega
                                            obtain ⟨i1, hi1, hz1, hs1, hb1⟩ := info_parts u8_info1
                                            have HTK := hide (off_take H7.out.2.2.2.2.2.1 (i := u) hum)
                                            rw [Nat.mul_one] at HTK
                                            refine wp_region_text 12 [0, 10] [1, 2, 3, 5, 6, 7, 9, 11] [4, 8] (fun w' => w'.cell? ⟨g, o + k2 * 13 + 9, none⟩ = some (.slice A1 m c1) ∧ w'.cell? ⟨g, o + k2 * 13 + 11, none⟩ = some (.int .i64 (u : Int))) (by kernel_rfl) (by kernel_rfl) (HS53.out _ (Only.refl [] W7).drew) ?_
                                            simp only [List.take_succ_cons, List.take_zero, List.drop_succ_cons, List.drop_zero]
                                            repeat (first | ((refine wpText_h rfl rfl ?_; apply Exists.intro; refine ⟨?_, ?_⟩; next => (go_simp; (try (go_bits; go_simp)); (first | done | with_reducible rfl | (rw [if_neg (by omega)]; (try (go_bits; go_simp)); (first | done | with_reducible rfl)) | (rw [if_pos (by omega)]; (try (go_bits; go_simp)); (first | done | with_reducible rfl))))); (try simp only [Act.put, List.setIfInBounds_toArray, List.set_cons_zero, List.set_cons_succ])) | ((refine wpText_p rfl rfl ?_; apply Exists.intro; refine ⟨?_, ?_⟩; next => (intro w'; go_simp; (try (go_bits; go_simp)); (first | done | with_reducible rfl | (rw [if_neg (by omega)]; (try (go_bits; go_simp)); (first | done | with_reducible rfl)) | (rw [if_pos (by omega)]; (try (go_bits; go_simp)); (first | done | with_reducible rfl))))); (try simp only [Act.put, List.setIfInBounds_toArray, List.set_cons_zero, List.set_cons_succ])) | ((refine wpText_y rfl rfl ?_; apply Exists.intro; refine ⟨?_, ?_⟩; next => (intro w' hS; (first | obtain ⟨_, rfl⟩ := hS | skip); go_simp; (try (go_bits; go_simp)); (first | done | with_reducible rfl | (rw [if_neg (by omega)]; (try (go_bits; go_simp)); (first | done | with_reducible rfl)) | (rw [if_pos (by omega)]; (try (go_bits; go_simp)); (first | done | with_reducible rfl))))); (try simp only [Act.put, List.setIfInBounds_toArray, List.set_cons_zero, List.set_cons_succ])) | (refine wpText_skip (by first | exact .inl rfl | exact .inr (.inl rfl) | exact .inr (.inr rfl)) rfl ?_; (try simp only [Act.put, List.setIfInBounds_toArray, List.set_cons_zero, List.set_cons_succ])))
                                            refine wpText_e rfl rfl (fun K hK => ?_)
                                            go_wp2
                                            refine hK _ _ (HS53.out _ HO1.out) ?_
                                            clear hK K
                                            try simp only [Act.put, List.setIfInBounds_toArray, List.set_cons_zero, List.set_cons_succ]
                                            repeat (first | ((refine wpText_h rfl rfl ?_; apply Exists.intro; refine ⟨?_, ?_⟩; next => (go_simp; (try (go_bits; go_simp)); (first | done | with_reducible rfl | (rw [if_neg (by omega)]; (try (go_bits; go_simp)); (first | done | with_reducible rfl)) | (rw [if_pos (by omega)]; (try (go_bits; go_simp)); (first | done | with_reducible rfl))))); (try simp only [Act.put, List.setIfInBounds_toArray, List.set_cons_zero, List.set_cons_succ])) | ((refine wpText_p rfl rfl ?_; apply Exists.intro; refine ⟨?_, ?_⟩; next => (intro w'; go_simp; (try (go_bits; go_simp)); (first | done | with_reducible rfl | (rw [if_neg (by omega)]; (try (go_bits; go_simp)); (first | done | with_reducible rfl)) | (rw [if_pos (by omega)]; (try (go_bits; go_simp)); (first | done | with_reducible rfl))))); (try simp only [Act.put, List.setIfInBounds_toArray, List.set_cons_zero, List.set_cons_succ])) | ((refine wpText_y rfl rfl ?_; apply Exists.intro; refine ⟨?_, ?_⟩; next => (intro w' hS; (first | obtain ⟨_, rfl⟩ := hS | skip); go_simp; (try (go_bits; go_simp)); (first | done | with_reducible rfl | (rw [if_neg (by omega)]; (try (go_bits; go_simp)); (first | done | with_reducible rfl)) | (rw [if_pos (by omega)]; (try (go_bits; go_simp)); (first | done | with_reducible rfl))))); (try simp only [Act.put, List.setIfInBounds_toArray, List.set_cons_zero, List.set_cons_succ])) | (refine wpText_skip (by first | exact .inl rfl | exact .inr (.inl rfl) | exact .inr (.inr rfl)) rfl ?_; (try simp only [Act.put, List.setIfInBounds_toArray, List.set_cons_zero, List.set_cons_succ])))
                                            refine wpText_e rfl rfl (fun K hK => ?_)
                                            refine wp_append_offs _ (.tmp 279) (.tmp 288) 28 rfl u8T i1 (.int .u8 0) 1 1 Try.underlying28 hi1 hz1 hs1 hb1 rfl (by decide) W7.heap.size (.slice (some ⟨W7.heap.size, 0, none⟩) 0 0) 0 [] rfl HM1.out HO1.out.size W3.heap.size (.slice A1 u c1) u ((bcells (wrC cc p p.data).1).take u) rfl (off_keep HTK.out (H8.out.2.1.trans HO1.out)) (fun v hv => b_one _ v (List.mem_of_mem_take hv)) (by simp only [maxLen]; omega) (by omega) ?_
                                            intro v3 w3 hr3 ho3 hv3
                                            rw [Nat.zero_add, List.nil_append] at hr3
                                            obtain ⟨A9, c9, rfl⟩ := off_shape hr3
                                            have hO3 : Only [] W7 w3 := HO1.out.trans' ho3 (by intro i hi hl; simp [Value.ownBlock] at hi; omega)
                                            have HR3 := hide (And.intro hr3 hO3)
                                            have hBk := hO3.blk H8.out.1 (by simp)
                                            refine hK _ _ (HS53.out _ hO3) ?_
                                            clear hK K hr3 ho3 hv3 hO3 d9 d11 ltg
                                            repeat (first | ((refine wpText_h rfl rfl ?_; apply Exists.intro; refine ⟨?_, ?_⟩; next => (go_simp; (try (go_bits; go_simp)); (first | done | with_reducible rfl | (rw [if_neg (by omega)]; (try (go_bits; go_simp)); (first | done | with_reducible rfl)) | (rw [if_pos (by omega)]; (try (go_bits; go_simp)); (first | done | with_reducible rfl))))); (try simp only [Act.put, List.setIfInBounds_toArray, List.set_cons_zero, List.set_cons_succ])) | ((refine wpText_p rfl rfl ?_; apply Exists.intro; refine ⟨?_, ?_⟩; next => (intro w'; go_simp; (try (go_bits; go_simp)); (first | done | with_reducible rfl | (rw [if_neg (by omega)]; (try (go_bits; go_simp)); (first | done | with_reducible rfl)) | (rw [if_pos (by omega)]; (try (go_bits; go_simp)); (first | done | with_reducible rfl))))); (try simp only [Act.put, List.setIfInBounds_toArray, List.set_cons_zero, List.set_cons_succ])) | ((refine wpText_y rfl rfl ?_; apply Exists.intro; refine ⟨?_, ?_⟩; next => (intro w' hS; (first | obtain ⟨_, rfl⟩ := hS | skip); go_simp; (try (go_bits; go_simp)); (first | done | with_reducible rfl | (rw [if_neg (by omega)]; (try (go_bits; go_simp)); (first | done | with_reducible rfl)) | (rw [if_pos (by omega)]; (try (go_bits; go_simp)); (first | done | with_reducible rfl))))); (try simp only [Act.put, List.setIfInBounds_toArray, List.set_cons_zero, List.set_cons_succ])) | (refine wpText_skip (by first | exact .inl rfl | exact .inr (.inl rfl) | exact .inr (.inr rfl)) rfl ?_; (try simp only [Act.put, List.setIfInBounds_toArray, List.set_cons_zero, List.set_cons_succ])))
                                            refine wpText_nil ?_
                                            have n5 := hBk.cell (i := 5) rfl
                                            have n6 := hBk.cell (i := 6) rfl
                                            have n7 := hBk.cell (i := 7) rfl
                                            have z5' := hBk.frozen 5
                                            have z6' := hBk.frozen 6
                                            have z7' := hBk.frozen 7
                                            have ltk := hBk.lt
                                            have HBK := hide hBk
                                            clear hBk
                                            go_wp2
                                            refine NoX.normal ?_
                                            obtain ⟨W8, hW8⟩ : ∃ W, W = ((w3.setCell ⟨kb, 5, none⟩ (I64 0)).setCell ⟨kb, 6, none⟩ (.bool false)).setCell ⟨kb, 7, none⟩ (.slice A9 u c9) := ⟨_, rfl⟩
                                            rw [show ((w3.setCell ⟨kb, 5, none⟩ (I64 0)).setCell ⟨kb, 6, none⟩ (.bool false)).setCell ⟨kb, 7, none⟩ (.slice A9 u c9) = W8 from hW8.symm]
                                            have o8 : Only [kb] w3 W8 := by rw [hW8]; exact (((Only.refl [kb] w3).set (p := ⟨kb, 5, none⟩) (.inl (by simp)) _).set (p := ⟨kb, 6, none⟩) (.inl (by simp)) _).set (p := ⟨kb, 7, none⟩) (.inl (by simp)) _
                                            have b8 : Blk W8 kb rpktT [.int .u32 cc.h.src, .int .u32 cc.h.dst, I64 cc.h.proto, I64 cc.h.ttl, I64 cc.h.id, I64 0, .bool false, .slice A9 u c9] := by rw [hW8]; exact Blk.to (((HBK.out.set 5 _).set 6 _).set 7 _) (by rfl)
                                            have o78 : Only [kb] W7 W8 := (HR3.out.2.mono (by simp)).trans o8
                                            have ow8 : Only [kb] wr W8 := (H8.out.2.1.mono (by simp)).trans o78
                                            have hR8 : RrAt base r W8 now (l2.set k2 z4) (.slice (some ⟨g, o, none⟩) n c) := (H7.out.1.keep H8.out.2.1).offz H8.out.1 o78
                                            have hz8 := o78.blk (H8.out.2.1.blk H7.out.2.2.1 (by simp)) (by simpa using H8.out.2.2.2.2.symm)
                                            have hot8 : Only (r :: va.ownBlock.toList) w W8 := (H7.out.2.2.2.1.trans' H8.out.2.1 (by simp)).trans' o78 (by intro i hi hlt; simp at hi; have := H8.out.2.2.2.1; omega)
                                            have hrow8 := off_only HR3.out.1 o8 (fun j hj => by simp only [List.mem_singleton]; intro e; exact off_ne_blk HR3.out.1 HBK.out (by decide) (e ▸ hj))
                                            have H9 := hide (show _ ∧ _ ∧ _ ∧ _ ∧ _ from ⟨hR8, b8, hz8, hot8, hrow8⟩)
                                            clear n5 n6 n7 z5' z6' z7' ltk o8 b8 o78 ow8 hR8 hz8 hot8 hrow8 hW8
                                            go_wp2_with fail
                                            refine (rremove_ok base r k2 n now (l2.set k2 z4) _ _ (HLD.out.2.2.1 _) hk2 (by omega) H9.out.1 (Nat.le_trans HBW.out H9.out.2.2.2.1.size)).mono ?_
                                            rintro e w5 ⟨v5, va5, rfl, hR5, ho5, hv5⟩
                                            rw [set_erase] at hR5
                                            have hkr5 : kb ≠ r := H9.out.2.1.ne H9.out.1.me (by decide)
                                            have b5 := ho5.blk H9.out.2.1 (by simpa using hkr5)
                                            have hz5 := ho5.blk H9.out.2.2.1 (by simpa using HRR.out.2)
                                            have hrow5 := off_only H9.out.2.2.2.2 ho5 (fun j hj => by simp only [List.mem_singleton]; intro e; exact off_ne_blk H9.out.2.2.2.2 H9.out.1.me (by decide) (e ▸ hj))
                                            have hlen : ((stepC cc p).data.take (stepC cc p).len.toNat).length = u := by
                                              rw [← HLN.out, List.length_take]
                                              show min _ (wrC cc p p.data).1.length = u
                                              rw [HLD.out.1]
                                              simp
                                              omega
                                            have hq9 : ((wholeP (stepC cc p)).at A9 c9).cells = [.int .u32 cc.h.src, .int .u32 cc.h.dst, I64 cc.h.proto, I64 cc.h.ttl, I64 cc.h.id, I64 0, .bool false, .slice A9 u c9] := by
                                              show [Value.int .u32 (stepC cc p).h.src, Value.int .u32 (stepC cc p).h.dst, I64 (stepC cc p).h.proto, I64 (stepC cc p).h.ttl, I64 (stepC cc p).h.id, I64 0, Value.bool false, Value.slice A9 ((stepC cc p).data.take (stepC cc p).len.toNat).length c9] = _
                                              rw [hlen]
                                              rfl
                                            have s0 := b5.cell (i := 0) rfl
                                            have s1 := b5.cell (i := 1) rfl
                                            have s2 := b5.cell (i := 2) rfl
                                            have s3 := b5.cell (i := 3) rfl
                                            have s4 := b5.cell (i := 4) rfl
                                            have s5 := b5.cell (i := 5) rfl
                                            have s6 := b5.cell (i := 6) rfl
                                            have s7 := b5.cell (i := 7) rfl
                                            have lts := b5.lt
                                            have H10 := hide (show _ ∧ _ ∧ _ ∧ _ ∧ _ ∧ _ from ⟨hR5, ho5, hv5, hz5, hrow5, hq9⟩)
                                            clear hR5 ho5 hv5 b5 hz5 hrow5 hq9 hlen hkr5
                                            go_wp2_with (refine wpList_store_cells rfl rpktT (.tmp 6) (.tmp 296) rfl (w.heap.size + 1) 0 rfl [.int .u32 cc.h.src, .int .u32 cc.h.dst, I64 cc.h.proto, I64 cc.h.ttl, I64 cc.h.id, I64 0, .bool false, .slice A9 u c9] rfl rpktT zsP H10.out.2.2.2.1 (by exact Nat.le_refl _) (by kernel_rfl) (by simp [Value.oneCell']) ?_; intro v1 hw3)
                                            refine bodyPost_ret (results_cell_tmp2 rfl _ _ _ rfl (load_rpkt (p := (wholeP (stepC cc p)).at A9 c9) (Blk.to hw3.1 (by rw [H10.out.2.2.2.2.2]; rfl)))) rfl ?_
                                            rw [HM6.out]
                                            have hnum : NumsIn v1 .u8 A9 (wholeP (stepC cc p)).data := by
                                              have h5 : (bcells (wrC cc p p.data).1).take u = bcells ((stepC cc p).data.take (stepC cc p).len.toNat) := by
                                                rw [← HLN.out]
                                                simp [bcells, List.map_take]
                                                rfl
                                              have h6 := off_only H10.out.2.2.2.2.1 hw3.2.1 (fun k hk => by simp only [List.mem_singleton]; intro e; exact off_ne_blk H10.out.2.2.2.2.1 H10.out.2.2.2.1 (by decide) (e ▸ hk))
                                              rw [h5] at h6
                                              exact nums_of_off h6
                                            refine ⟨A9, c9, l2.eraseIdx k2, va5, rfl, hnum, erase_map l2 k2, H10.out.1.offz H10.out.2.2.2.1 hw3.2.1, ?_, ?_⟩
                                            · exact (H9.out.2.2.2.1.trans (H10.out.2.1.mono (S' := r :: va.ownBlock.toList) (by intro i hi _; simp at hi ⊢; exact .inl hi))).trans' hw3.2.1 (by intro i hi hlt; simp at hi; omega)
                                            · intro j hj
                                              rcases mem_rfoot.1 hj with h1 | h1 | ⟨z, hz, h1⟩
                                              · exact .inl (mem_rfoot.2 (.inl h1))
                                              · exact .inr (Nat.le_trans H9.out.2.2.2.1.size (H10.out.2.2.1 j h1))
                                              · exact HC.out.2.2.1 j (mem_rfoot.2 (.inr (.inr ⟨z, List.mem_of_mem_eraseIdx hz, h1⟩)))
    · rw [hv]
      have HO : Hid (addM last (l.map (·.c)) p now = ⟨last, l.map (·.c), zeroP, false, 34⟩) := hide (by unfold addM; rw [if_pos (.inr (by unfold tickB at ht; simpa using ht))])
      have HT := hide (show tickB now = false by simpa using ht)
      clear hv ht
      go_wp2_with fail
      refine (inRange_ok now _).mono ?_
      rintro e w2 ⟨rfl, rfl⟩
      rw [HT.out]
      go_wp2_with (refine wpList_store_cells rfl rpktT (.tmp 6) (.tmp 29) rfl (w.heap.size + 1) 0 rfl zsP rfl rpktT zsP HR1.out.2.2.1 (by exact Nat.le_refl _) (by kernel_rfl) (by simp [Value.oneCell']) ?_; intro v1 hw3)
      refine bodyPost_ret (results_cell_tmp2 rfl _ _ _ rfl (load_rpkt (p := zeroP) (Blk.to hw3.1 (by rfl)))) rfl ?_
      refine radd_none (HR1.out.2.2.2.offz HR1.out.2.2.1 hw3.2.1) (HR1.out.1.trans' hw3.2.1 (by intro i hi hlt; simp at hi; omega)) HO.out
  · have hv34 : p.valid = 34 := by
      by_cases hb : p.bad
      · exact Pkt.valid_bad hb
      · exact absurd (Pkt.valid_good hb) hv
    rw [hv34]
    have HO : Hid (addM last (l.map (·.c)) p now = ⟨last, l.map (·.c), zeroP, false, 34⟩) := hide (by unfold addM; rw [if_pos (.inl hv)])
    clear hv hv34
    go_wp2_with (refine wpList_store_cells rfl rpktT (.tmp 6) (.tmp 29) rfl (w.heap.size + 1) 0 rfl zsP rfl rpktT zsP HR1.out.2.2.1 (by exact Nat.le_refl _) (by kernel_rfl) (by simp [Value.oneCell']) ?_; intro v1 hw3)
    refine bodyPost_ret (results_cell_tmp2 rfl _ _ _ rfl (load_rpkt (p := zeroP) (Blk.to hw3.1 (by rfl)))) rfl ?_
    refine radd_none (HR1.out.2.2.2.offz HR1.out.2.2.1 hw3.2.1) (HR1.out.1.trans' hw3.2.1 (by intro i hi hlt; simp at hi; omega)) HO.out

end Go.Proofs.Ytlnejlhdkmneeaa
