/- A collection of fragments: its model, its memory; add. -/
import Derived.Test.YtlnejlhdkmneeaaAddA
import Derived.Test.YtlnejlhdkmneeaaAppZ
import Derived.Test.YtlnejlhdkmneeaaResD
import Derived.Deep.DeepCutAuto
import Derived.Deep.CutBlock
namespace Go.Proofs.Ytlnejlhdkmneeaa
open Go.RowKit

abbrev colT : TypeId := 153
abbrev boolT : TypeId := 4
abbrev rasT : TypeId := 144

structure Col where
  h : Pkt
  bg : Int
  data : List Nat
  hv : List Bool
  len : Int
  cnt : Nat

/-- Bytes that came first stay. -/
def wrB : List Nat → List Bool → Nat → List Nat → List Nat × List Bool
  | d, h, _, [] => (d, h)
  | d, h, o, b :: r => if h.getD o false then wrB d h (o + 1) r else wrB (d.set o b) (h.set o true) (o + 1) r
theorem wrB_snoc : ∀ (l : List Nat) (d : List Nat) (h : List Bool) (o b : Nat), wrB d h o (l ++ [b]) = (if (wrB d h o l).2.getD (o + l.length) false then wrB d h o l else ((wrB d h o l).1.set (o + l.length) b, (wrB d h o l).2.set (o + l.length) true))
  | [], d, h, o, b => by
    simp only [List.nil_append, wrB, List.length_nil, Nat.add_zero]
    rfl
  | c :: r, d, h, o, b => by
    simp only [List.cons_append, wrB, List.length_cons]
    have e : o + (r.length + 1) = o + 1 + r.length := by omega
    split <;> rw [wrB_snoc r, e]
theorem wrB_len : ∀ (l : List Nat) (d : List Nat) (h : List Bool) (o : Nat), (wrB d h o l).1.length = d.length ∧ (wrB d h o l).2.length = h.length
  | [], _, _, _ => ⟨rfl, rfl⟩
  | b :: r, d, h, o => by
    simp only [wrB]
    split
    · exact wrB_len r d h (o + 1)
    · have := wrB_len r (d.set o b) (h.set o true) (o + 1)
      simpa using this
def padN (n : Nat) (d : List Nat) : List Nat := d ++ List.replicate (n - d.length) 0
def padB (n : Nat) (d : List Bool) : List Bool := d ++ List.replicate (n - d.length) false
theorem padN_len (n : Nat) (d : List Nat) : (padN n d).length = max n d.length := by unfold padN; simp; omega
theorem padB_len (n : Nat) (d : List Bool) : (padB n d).length = max n d.length := by unfold padB; simp; omega
def endP (p : Pkt) : Nat := p.off.toNat + p.data.length
def wrC (c : Col) (p : Pkt) (bs : List Nat) : List Nat × List Bool := wrB (padN (endP p) c.data) (padB (endP p) c.hv) p.off.toNat bs
def stepC (c : Col) (p : Pkt) : Col :=
  ⟨c.h, c.bg, (wrC c p p.data).1, (wrC c p p.data).2, if p.more = false ∧ c.len < 0 then (endP p : Nat) else c.len, c.cnt + 1⟩
theorem bcells_rep (n : Nat) : bcells (List.replicate n 0) = List.replicate n (Value.int .u8 0) := by simp [bcells]
theorem bcells_app (a b : List Nat) : bcells (a ++ b) = bcells a ++ bcells b := by simp [bcells]
theorem bcells_set (l : List Nat) (i x : Nat) : bcells (l.set i x) = (bcells l).set i (.int .u8 (x : Int)) := by simp [bcells, List.map_set]

/-- How a collection lies in memory. -/
structure CPlace where
  e : Nat
  num : Int
  fA : Option Addr
  fn : Nat
  fc : Nat
  vd : Value
  vh : Value
def ccl (z : CPlace) (c : Col) : List Value := [I64 c.bg, I64 z.num, .int .u32 c.h.src, .int .u32 c.h.dst, I64 c.h.proto, I64 c.h.ttl, I64 c.h.id, I64 c.h.off, .bool c.h.more, .slice z.fA z.fn z.fc, z.vd, z.vh, I64 c.len, I64 (c.cnt : Nat)]
structure ColAt (base : Nat) (w : World) (z : CPlace) (c : Col) : Prop where
  me : Blk w z.e colT (ccl z c)
  dr : offRow w base u8T 1 z.vd c.data.length (bcells c.data)
  hr : offRow w base boolT 1 z.vh c.hv.length (c.hv.map Value.bool)
  eq : c.hv.length = c.data.length
  be : base ≤ z.e

theorem u8_info1 : (Try.prog.info? u8T).map (fun i => (i.zero, i.size, i.bytes)) = some (some (.int .u8 0), 1, 1) := by kernel_rfl
theorem bool_info1 : (Try.prog.info? boolT).map (fun i => (i.zero, i.size, i.bytes)) = some (some (.bool false), 1, 1) := by kernel_rfl

def AddS (base : Nat) (z : CPlace) (c : Col) (w : World) (e : Ending) (w' : World) : Prop :=
  ∃ v vd vh, e = .returned v ∧ ColAt base w' { z with vd := vd, vh := vh } c ∧ Only (z.e :: (z.vd.ownBlock.toList ++ z.vh.ownBlock.toList)) w w' ∧
    (vd.ownBlock = z.vd.ownBlock ∨ ∀ k, vd.ownBlock = some k → w.heap.size ≤ k) ∧ (vh.ownBlock = z.vh.ownBlock ∨ ∀ k, vh.ownBlock = some k → w.heap.size ≤ k)

theorem offT' {w : World} {base : Nat} {e : TypeId} {size n : Nat} {v : Value} {xs : List Value} (h : offRow w base e size v n xs) {k : Nat} (hk : v.ownBlock = some k) : ∃ cs, Blk w k e cs := by
  rcases h.2 with ⟨rfl, -⟩ | ⟨g, o, cap, cs, rfl, -, h3, -⟩
  · simp [Value.ownBlock] at hk
  · obtain rfl : g = k := by simpa [Value.ownBlock] using hk
    exact ⟨cs, h3⟩
/-- A row is as it was where another kind's row has turned. -/
theorem off_apart {w w' : World} {base b2 : Nat} {e e2 : TypeId} {size s2 n n2 : Nat} {v v2 : Value} {xs x2 : List Value} (h : offRow w base e size v n xs) (h2 : offRow w b2 e2 s2 v2 n2 x2) (he : e ≠ e2) (ho : Only v2.ownBlock.toList w w') : offRow w' base e size v n xs :=
  off_only h ho fun k hk hm => by
    obtain ⟨c1, h3⟩ := offT' h hk
    obtain ⟨c2, h4⟩ := offT' h2 (mem_own.1 hm)
    exact absurd rfl (h3.ne h4 he)

/-- Behind the growing of the two rows. -/
def PadS (base e0 N : Nat) (ad ah : Option Addr) (dl cd ch : Nat) (D : List Nat) (Hv : List Bool) (c : Col) (num : Int) (fA : Option Addr) (fn fc : Nat) (w wx : World) : Prop :=
  ∃ vd vh, Blk wx e0 colT [I64 c.bg, I64 num, .int .u32 c.h.src, .int .u32 c.h.dst, I64 c.h.proto, I64 c.h.ttl, I64 c.h.id, I64 c.h.off, .bool c.h.more, .slice fA fn fc, vd, vh, I64 c.len, I64 ((c.cnt : Int) + 1)] ∧
    offRow wx base u8T 1 vd N (bcells D) ∧ offRow wx base boolT 1 vh N (Hv.map Value.bool) ∧ Only (e0 :: ((Value.slice ad dl cd).ownBlock.toList ++ (Value.slice ah dl ch).ownBlock.toList)) w wx ∧
    (vd.ownBlock = (Value.slice ad dl cd).ownBlock ∨ ∀ k, vd.ownBlock = some k → w.heap.size ≤ k) ∧ (vh.ownBlock = (Value.slice ah dl ch).ownBlock ∨ ∀ k, vh.ownBlock = some k → w.heap.size ≤ k)

/-- Behind the bytes bs. -/
def FillAt (base e0 : Nat) (num : Int) (fA : Option Addr) (fn fc N : Nat) (Ad Ah : Option Addr) (cD cH : Nat) (c : Col) (q : Nat) (D : List Nat) (Hv : List Bool) (bs : List Nat) (w wr : World) : Prop :=
  Blk wr e0 colT [I64 c.bg, I64 num, .int .u32 c.h.src, .int .u32 c.h.dst, I64 c.h.proto, I64 c.h.ttl, I64 c.h.id, I64 c.h.off, .bool c.h.more, .slice fA fn fc, .slice Ad N cD, .slice Ah N cH, I64 c.len, I64 ((c.cnt : Int) + 1)] ∧
    offRow wr base u8T 1 (.slice Ad N cD) N (bcells (wrB D Hv q bs).1) ∧ offRow wr base boolT 1 (.slice Ah N cH) N ((wrB D Hv q bs).2.map Value.bool) ∧ Only ((Value.slice Ad N cD).ownBlock.toList ++ (Value.slice Ah N cH).ownBlock.toList) w wr

set_option maxRecDepth 100000 in
set_option maxHeartbeats 16000000 in
theorem cadd_ok (base : Nat) (z : CPlace) (c : Col) (p : Pkt) (w : World) (h : ColAt base w z c) (hbw : base ≤ w.heap.size) (hv : p.valid = 0) (hd : c.data.length ≤ 65535) (hct : c.cnt ≤ 1000) (hA : NumsIn w .u8 p.A p.data)
    (hne : ∀ g o s, p.A = some ⟨g, o, s⟩ → p.data ≠ [] → g ≠ z.e ∧ z.vd.ownBlock ≠ some g ∧ z.vh.ownBlock ≠ some g) :
    Calls Try.prog 77 #[.pointer (some ⟨z.e, 0, none⟩), p.V] w fun e w' => AddS base z (stepC c p) w e w' := by
  have hbd : ¬ p.bad := fun hb => by rw [Pkt.valid_bad hb] at hv; cases hv
  unfold Pkt.bad at hbd
  obtain ⟨q, hq⟩ : ∃ q : Nat, p.off = (q : Int) := ⟨p.off.toNat, by omega⟩
  obtain ⟨n, hn⟩ : ∃ n, n = p.data.length := ⟨_, rfl⟩
  have hqn : q + n ≤ 65535 := by omega
  have hO : Only [] w (w.alloc (.cells #[.int .u32 p.src, .int .u32 p.dst, I64 p.proto, I64 p.ttl, I64 p.id, I64 p.off, .bool p.more, .slice p.A p.data.length p.cap] pktT)) := (Only.refl [] w).alloc _
  have hX : Blk (w.alloc (.cells #[.int .u32 p.src, .int .u32 p.dst, I64 p.proto, I64 p.ttl, I64 p.id, I64 p.off, .bool p.more, .slice p.A p.data.length p.cap] pktT)) w.heap.size pktT [.int .u32 p.src, .int .u32 p.dst, I64 p.proto, I64 p.ttl, I64 p.id, I64 (q : Int), .bool p.more, .slice p.A n p.cap] := by rw [hn, ← hq]; exact Blk.newA rfl
  have hep : endP p = q + n := by unfold endP; rw [hq, hn]; simp
  obtain ⟨dl, hdl⟩ : ∃ dl, dl = c.data.length := ⟨_, rfl⟩
  have hdr := off_keep h.dr hO
  have hhr := off_keep h.hr hO
  rw [h.eq, ← hdl] at hhr
  rw [← hdl] at hdr hd
  obtain ⟨e0, num, fA, fn, fc, vd, vh⟩ := z
  obtain ⟨ad, cd, hvd⟩ := off_shape hdr
  obtain ⟨ah, ch, hvh⟩ := off_shape hhr
  simp only at hvd hvh
  subst hvd hvh
  have hme := hO.blk h.me (by simp)
  simp only at hne
  have h0 := h
  obtain ⟨W1, hW1⟩ : ∃ W, W = w.alloc (.cells #[.int .u32 p.src, .int .u32 p.dst, I64 p.proto, I64 p.ttl, I64 p.id, I64 p.off, .bool p.more, .slice p.A p.data.length p.cap] pktT) := ⟨_, rfl⟩
  rw [← hW1] at hO hX hdr hhr hme
  have hm2 : Blk (W1.setCell ⟨e0, 13, none⟩ (I64 ((c.cnt : Int) + 1))) e0 colT [I64 c.bg, I64 num, .int .u32 c.h.src, .int .u32 c.h.dst, I64 c.h.proto, I64 c.h.ttl, I64 c.h.id, I64 c.h.off, .bool c.h.more, .slice fA fn fc, .slice ad dl cd, .slice ah dl ch, I64 c.len, I64 ((c.cnt : Int) + 1)] := hme.set 13 _
  have ho2 : Only [e0] W1 (W1.setCell ⟨e0, 13, none⟩ (I64 ((c.cnt : Int) + 1))) := (Only.refl _ _).set (p := ⟨e0, 13, none⟩) (.inl (by simp)) _
  have hx2 := ho2.blk hX (by simpa using hX.ne hme (by decide))
  have hd2 := off_only hdr ho2 (fun k hk => by simp; rintro rfl; exact off_ne_blk hdr hme (by decide) hk)
  have hh2 := off_only hhr ho2 (fun k hk => by simp; rintro rfl; exact off_ne_blk hhr hme (by decide) hk)
  have c13 := hme.cell (i := 13) rfl
  have z13 := hme.frozen 13
  have lt1 := hme.lt
  obtain ⟨W2, hW2⟩ : ∃ W, W = W1.setCell ⟨e0, 13, none⟩ (I64 ((c.cnt : Int) + 1)) := ⟨_, rfl⟩
  rw [← hW2] at hm2 ho2 hx2 hd2 hh2
  have HW1 := hide hW1
  have HW2 := hide hW2
  have hoW : Only [e0] w W2 := (hO.mono (by simp)).trans ho2
  have hA2 : NumsIn W2 .u8 p.A p.data := by
    intro k x hx
    obtain ⟨b0, o0, e1, hc0⟩ := hA k x hx
    refine ⟨b0, o0, e1, ?_⟩
    rw [← hc0]
    refine World.cell?_of_block (hoW.block b0 (World.block_lt_of_cell? _ _ hc0) ?_)
    simpa using (hne _ _ _ e1 (ne_of_get hx)).1
  have HA2 := hide hA2
  have H2 := hide (show _ ∧ _ ∧ _ ∧ _ ∧ _ from ⟨hm2, hx2, hd2, hh2, hoW⟩)
  have HBW := hide (show base ≤ W2.heap.size from Nat.le_trans hbw hoW.size)
  have HN := hide hn
  have HQ := hide hq
  have HDL := hide hdl
  have HNE := hide hne
  have HH := hide (show c.hv.length = c.data.length ∧ base ≤ e0 from ⟨h.eq, h.be⟩)
  have HEP := hide hep
  rw [hW1] at c13 z13 lt1
  simp only at c13 z13 lt1
  clear h0 h hO hX hdr hhr hme ho2 hx2 hd2 hh2 hoW hA2 hA hne hbd hq hn hdl hW1 hW2 hep hv hbw hm2
  show Calls Try.prog 77 #[.pointer (some ⟨e0, 0, none⟩), .agg #[.int .u32 p.src, .int .u32 p.dst, I64 p.proto, I64 p.ttl, I64 p.id, I64 p.off, .bool p.more, .slice p.A p.data.length p.cap]] w _
  go_enter Try.func77, Try.ntmps77
  go_upto_region 2 with (fail)
  have e13 : IntKind.i64.wrap ((c.cnt : Int) + 1) = (c.cnt : Int) + 1 := by simp [IntKind.wrap, IntKind.bits, IntKind.signed]; omega
  rw [← HW1.out, show W1.setCell ⟨e0, 13, none⟩ (.int .i64 ((c.cnt : Int) + 1)) = W2 from HW2.out.symm]
  clear e13 c13 z13 lt1
  have x5 := H2.out.2.1.cell (i := 5) rfl
  have x7 := H2.out.2.1.cell (i := 7) rfl
  have ltx := H2.out.2.1.lt
  have d10 := H2.out.1.cell (i := 10) rfl
  have d11 := H2.out.1.cell (i := 11) rfl
  have lte := H2.out.1.lt
  have s1 : IntKind.i64.wrap ((q : Int) + (n : Int)) = (q : Int) + (n : Int) := by simp [IntKind.wrap, IntKind.bits, IntKind.signed]; omega
  go_upto_if 30 with (fail)
  obtain ⟨N, hN⟩ : ∃ N, N = max (q + n) dl := ⟨_, rfl⟩
  have HN2 := hide hN
  go_cut [] (fun wx => PadS base e0 N ad ah dl cd ch (padN (q + n) c.data) (padB (q + n) c.hv) c num fA fn fc W2 wx)
  case first =>
    by_cases hp : dl < q + n
    · obtain ⟨m, hm⟩ : ∃ m, m = q + n - dl := ⟨_, rfl⟩
      have HM := hide (show (q : Int) + (n : Int) - (dl : Int) = ((m : Nat) : Int) by omega)
      have HM2 := hide (show 0 < m ∧ dl + m = q + n by omega)
      have hpos : (0 : Int) < (q : Int) + (n : Int) - (dl : Int) := by omega
      have hNN : N = q + n := by omega
      subst hNN
      obtain ⟨i1, hi1, hz1, hs1, hb1⟩ := info_parts u8_info1
      obtain ⟨i2, hi2, hz2, hs2, hb2⟩ := info_parts bool_info1
      have hdm : dl + m ≤ 65535 := by omega
      have HPD := hide (show bcells (padN (q + n) c.data) = bcells c.data ++ List.replicate m (.int .u8 0) ∧ (padB (q + n) c.hv).map Value.bool = c.hv.map Value.bool ++ List.replicate m (.bool false) from by
        have e1 : q + n - c.data.length = m := by rw [← HDL.out]; omega
        have e2 : q + n - c.hv.length = m := by rw [HH.out.1, ← HDL.out]; omega
        unfold padN padB
        rw [e1, e2, bcells_app, bcells_rep]
        simp)
      clear hm hN
      go_wp2
      refine wp_region_text 13 [7] [0, 1, 8, 9, 10, 12] [11] (fun w' => w'.cell? ⟨e0, 11, none⟩ = some (.slice ah dl ch)) (by kernel_rfl) (by kernel_rfl) (by go_simp) ?_
      simp only [List.take_succ_cons, List.take_zero, List.drop_succ_cons, List.drop_zero]
      repeat (first | ((refine wpText_h rfl rfl ?_; apply Exists.intro; refine ⟨?_, ?_⟩; next => (go_simp; (try (go_bits; go_simp)); (first | done | with_reducible rfl | (rw [if_neg (by omega)]; (try (go_bits; go_simp)); (first | done | with_reducible rfl)) | (rw [if_pos (by omega)]; (try (go_bits; go_simp)); (first | done | with_reducible rfl))))); (try simp only [Act.put, List.setIfInBounds_toArray, List.set_cons_zero, List.set_cons_succ])) | ((refine wpText_p rfl rfl ?_; apply Exists.intro; refine ⟨?_, ?_⟩; next => (intro w'; go_simp; (try (go_bits; go_simp)); (first | done | with_reducible rfl | (rw [if_neg (by omega)]; (try (go_bits; go_simp)); (first | done | with_reducible rfl)) | (rw [if_pos (by omega)]; (try (go_bits; go_simp)); (first | done | with_reducible rfl))))); (try simp only [Act.put, List.setIfInBounds_toArray, List.set_cons_zero, List.set_cons_succ])) | ((refine wpText_y rfl rfl ?_; apply Exists.intro; refine ⟨?_, ?_⟩; next => (intro w' hS; (first | obtain ⟨_, rfl⟩ := hS | skip); go_simp; (try (go_bits; go_simp)); (first | done | with_reducible rfl | (rw [if_neg (by omega)]; (try (go_bits; go_simp)); (first | done | with_reducible rfl)) | (rw [if_pos (by omega)]; (try (go_bits; go_simp)); (first | done | with_reducible rfl))))); (try simp only [Act.put, List.setIfInBounds_toArray, List.set_cons_zero, List.set_cons_succ])) | (refine wpText_skip (by first | exact .inl rfl | exact .inr (.inl rfl) | exact .inr (.inr rfl)) rfl ?_; (try simp only [Act.put, List.setIfInBounds_toArray, List.set_cons_zero, List.set_cons_succ])))
      refine wpText_e rfl rfl (fun K hK => ?_)
      refine wp_append_zeros _ (.tmp 36) (.tmp 37) 28 3 rfl u8T i1 (.int .u8 0) 1 Try.underlying28 Try.underlying3 hi1 hz1 hs1 hb1 rfl rfl base (.slice ad dl cd) dl (bcells c.data) rfl (off_keep H2.out.2.2.1 (Only.refl [] W2).drew) HBW.out m HM2.out.1 (by show Value.int .i64 _ = _; rw [HM.out]) (by simp only [maxLen]; omega) (by omega) ?_
      intro v3 w3 hr3 ho3 hv3
      have hyd := off_ne_blk H2.out.2.2.1 H2.out.1 (by decide)
      have me3 := ho3.blk (H2.out.1.drew) (fun hh => hyd (mem_own.1 hh))
      have hh3 := off_apart (off_keep H2.out.2.2.2.1 (Only.refl [] W2).drew) (off_keep H2.out.2.2.1 (Only.refl [] W2).drew) (by decide) ho3
      obtain ⟨A3, c3, rfl⟩ := off_shape hr3
      have b11 := me3.cell (i := 11) rfl
      have l3 := me3.lt
      refine hK _ _ b11 ?_
      clear hK K
      have H3 := hide (show _ ∧ _ ∧ _ ∧ _ ∧ _ from ⟨hr3, me3, hh3, ho3, hv3⟩)
      clear hr3 me3 hh3 ho3 hv3 hyd
      repeat (first | ((refine wpText_h rfl rfl ?_; apply Exists.intro; refine ⟨?_, ?_⟩; next => (go_simp; (try (go_bits; go_simp)); (first | done | with_reducible rfl | (rw [if_neg (by omega)]; (try (go_bits; go_simp)); (first | done | with_reducible rfl)) | (rw [if_pos (by omega)]; (try (go_bits; go_simp)); (first | done | with_reducible rfl))))); (try simp only [Act.put, List.setIfInBounds_toArray, List.set_cons_zero, List.set_cons_succ])) | ((refine wpText_p rfl rfl ?_; apply Exists.intro; refine ⟨?_, ?_⟩; next => (intro w'; go_simp; (try (go_bits; go_simp)); (first | done | with_reducible rfl | (rw [if_neg (by omega)]; (try (go_bits; go_simp)); (first | done | with_reducible rfl)) | (rw [if_pos (by omega)]; (try (go_bits; go_simp)); (first | done | with_reducible rfl))))); (try simp only [Act.put, List.setIfInBounds_toArray, List.set_cons_zero, List.set_cons_succ])) | ((refine wpText_y rfl rfl ?_; apply Exists.intro; refine ⟨?_, ?_⟩; next => (intro w' hS; (first | obtain ⟨_, rfl⟩ := hS | skip); go_simp; (try (go_bits; go_simp)); (first | done | with_reducible rfl | (rw [if_neg (by omega)]; (try (go_bits; go_simp)); (first | done | with_reducible rfl)) | (rw [if_pos (by omega)]; (try (go_bits; go_simp)); (first | done | with_reducible rfl))))); (try simp only [Act.put, List.setIfInBounds_toArray, List.set_cons_zero, List.set_cons_succ])) | (refine wpText_skip (by first | exact .inl rfl | exact .inr (.inl rfl) | exact .inr (.inr rfl)) rfl ?_; (try simp only [Act.put, List.setIfInBounds_toArray, List.set_cons_zero, List.set_cons_succ])))
      refine wpText_nil ?_
      refine wpList_plain rfl (fun K hK => ?_)
      refine wp_append_zeros _ (.tmp 42) (.tmp 43) 81 3 rfl boolT i2 (.bool false) 1 Try.underlying81 Try.underlying3 hi2 hz2 hs2 hb2 rfl rfl base (.slice ah dl ch) dl (c.hv.map Value.bool) rfl H3.out.2.2.1 (Nat.le_trans HBW.out H3.out.2.2.2.1.size) m HM2.out.1 (by show Value.int .i64 _ = _; rw [HM.out]) (by simp only [maxLen]; omega) (by omega) ?_
      intro v4 w4 hr4 ho4 hv4
      have hyh := off_ne_blk H3.out.2.2.1 H3.out.2.1 (by decide)
      have me4 := ho4.blk H3.out.2.1 (fun hh => hyh (mem_own.1 hh))
      have hd4 := off_apart H3.out.1 H3.out.2.2.1 (by decide) ho4
      obtain ⟨A4, c4, rfl⟩ := off_shape hr4
      have f10 := me4.frozen 10
      have f11 := me4.frozen 11
      have b10 := me4.cell (i := 10) rfl
      have b11 := me4.cell (i := 11) rfl
      have l4 := me4.lt
      have H4 := hide (show _ ∧ _ ∧ _ ∧ _ ∧ _ from ⟨hr4, me4, hd4, ho4, hv4⟩)
      refine hK _ _ ?_
      clear hK K hr4 me4 hd4 ho4 hv4 hyh
      go_wp2
      refine NoX.normal ?_
      go_wp2
      go_meet
      have hdq := HM2.out.2
      rw [hdq] at H4 H3
      have hds := off_set (off_set H4.out.2.2.1 (p := ⟨e0, 10, none⟩) (off_ne_blk H4.out.2.2.1 H4.out.2.1 (by decide)) (.slice A3 (q + n) c3)) (p := ⟨e0, 11, none⟩) (off_ne_blk H4.out.2.2.1 H4.out.2.1 (by decide)) (.slice A4 (q + n) c4)
      have hhs := off_set (off_set H4.out.1 (p := ⟨e0, 10, none⟩) (off_ne_blk H4.out.1 H4.out.2.1 (by decide)) (.slice A3 (q + n) c3)) (p := ⟨e0, 11, none⟩) (off_ne_blk H4.out.1 H4.out.2.1 (by decide)) (.slice A4 (q + n) c4)
      rw [hdq]
      rw [← HPD.out.1] at hds
      rw [← HPD.out.2] at hhs
      have o3 : Only (e0 :: ((Value.slice ad dl cd).ownBlock.toList ++ (Value.slice ah dl ch).ownBlock.toList)) W2 w3 := ((Only.refl [] W2).drew.mono (by simp)).trans (H3.out.2.2.2.1.mono (fun k hk _ => List.mem_cons_of_mem _ (List.mem_append_left _ hk)))
      have o4 := o3.trans (H4.out.2.2.2.1.mono (S' := e0 :: ((Value.slice ad dl cd).ownBlock.toList ++ (Value.slice ah dl ch).ownBlock.toList)) (fun k hk _ => List.mem_cons_of_mem _ (List.mem_append_right _ hk)))
      exact ⟨.slice A3 (q + n) c3, .slice A4 (q + n) c4, (H4.out.2.1.set 10 _).set 11 _, hds, hhs, (o4.set (p := ⟨e0, 10, none⟩) (.inl (by simp)) _).set (p := ⟨e0, 11, none⟩) (.inl (by simp)) _, H3.out.2.2.2.2, H4.out.2.2.2.2.imp id (fun hh k hk => Nat.le_trans o3.size (hh k hk))⟩
    · have hpos : ¬ ((0 : Int) < (q : Int) + (n : Int) - (dl : Int)) := by omega
      have hNN : N = dl := by omega
      have hz : q + n - c.data.length = 0 := by rw [← HDL.out]; omega
      have hz2 : q + n - c.hv.length = 0 := by rw [HH.out.1, ← HDL.out]; omega
      have HP := hide (show padN (q + n) c.data = c.data ∧ padB (q + n) c.hv = c.hv by unfold padN padB; rw [hz, hz2]; simp)
      subst hNN
      clear hz hz2 hN
      go_wp2
      go_meet
      rw [HP.out.1, HP.out.2]
      exact ⟨_, _, H2.out.1, H2.out.2.2.1, H2.out.2.2.2.1, Only.refl _ _, .inl rfl, .inl rfl⟩
  case rest =>
    obtain ⟨vd, vh, hme, hdr, hhr, hoc, hod, hoh⟩ := hcut
    obtain ⟨Ad, cD, rfl⟩ := off_shape hdr
    obtain ⟨Ah, cH, rfl⟩ := off_shape hhr
    have hX : Blk wc w.heap.size pktT [.int .u32 p.src, .int .u32 p.dst, I64 p.proto, I64 p.ttl, I64 p.id, I64 (q : Int), .bool p.more, .slice p.A n p.cap] := hoc.blk H2.out.2.1 (by
      intro hm
      rcases List.mem_cons.1 hm with h1 | h1
      · exact H2.out.2.1.ne H2.out.1 (by decide) h1
      · rcases List.mem_append.1 h1 with h1 | h1
        · exact off_ne_blk H2.out.2.2.1 H2.out.2.1 (by decide) (mem_own.1 h1)
        · exact off_ne_blk H2.out.2.2.2.1 H2.out.2.1 (by decide) (mem_own.1 h1))
    have hAc : NumsIn wc .u8 p.A p.data := by
      intro k x hx
      obtain ⟨b0, o0, e1, hc0⟩ := HA2.out k x hx
      refine ⟨b0, o0, e1, ?_⟩
      rw [← hc0]
      obtain ⟨n1, n2, n3⟩ := HNE.out _ _ _ e1 (ne_of_get hx)
      refine World.cell?_of_block (hoc.block b0 (World.block_lt_of_cell? _ _ hc0) ?_)
      intro hm
      rcases List.mem_cons.1 hm with h1 | h1
      · exact n1 h1
      · rcases List.mem_append.1 h1 with h1 | h1
        · exact n2 (mem_own.1 h1)
        · exact n3 (mem_own.1 h1)
    have HAW := hide (show ∀ wr : World, Only ((Value.slice Ad N cD).ownBlock.toList ++ (Value.slice Ah N cH).ownBlock.toList) wc wr → NumsIn wr .u8 p.A p.data ∧ Blk wr w.heap.size pktT [.int .u32 p.src, .int .u32 p.dst, I64 p.proto, I64 p.ttl, I64 p.id, I64 (q : Int), .bool p.more, .slice p.A n p.cap] from fun wr ho => by
      refine ⟨?_, ho.blk hX (by
        intro hm
        rcases List.mem_append.1 hm with h1 | h1
        · exact off_ne_blk hdr hX (by decide) (mem_own.1 h1)
        · exact off_ne_blk hhr hX (by decide) (mem_own.1 h1))⟩
      intro k x hx
      obtain ⟨b0, o0, e1, hc0⟩ := hAc k x hx
      refine ⟨b0, o0, e1, ?_⟩
      rw [← hc0]
      obtain ⟨b1, o1, e2, hc1⟩ := HA2.out k x hx
      rw [e1] at e2
      injection e2 with e2
      injection e2 with e2 e3
      subst e2
      have hlt := World.block_lt_of_cell? _ _ hc1
      obtain ⟨n1, n2, n3⟩ := HNE.out _ _ _ e1 (ne_of_get hx)
      refine World.cell?_of_block (ho.block b0 (World.block_lt_of_cell? _ _ hc0) ?_)
      intro hm
      rcases List.mem_append.1 hm with h1 | h1
      · rcases hod with h2 | h2
        · exact n2 (by rw [← h2]; exact mem_own.1 h1)
        · have := h2 _ (mem_own.1 h1); simp at hlt; omega
      · rcases hoh with h2 | h2
        · exact n3 (by rw [← h2]; exact mem_own.1 h1)
        · have := h2 _ (mem_own.1 h1); simp at hlt; omega)
    have HC := hide (show _ ∧ _ ∧ _ ∧ _ ∧ _ ∧ _ ∧ _ ∧ _ from ⟨hme, hdr, hhr, hoc, hod, hoh, hX, hAc⟩)
    clear hme hdr hhr hoc hod hoh hX hAc x5 x7 ltx d10 d11 lte s1 hN
    have x5 := HC.out.2.2.2.2.2.2.1.cell (i := 5) rfl
    have x7 := HC.out.2.2.2.2.2.2.1.cell (i := 7) rfl
    have ltx := HC.out.2.2.2.2.2.2.1.lt
    go_wp2
    go_loopw [52] (fun i wr => ∃ k : Nat, k ≤ n ∧ i = .int .i64 k ∧ Hid (FillAt base e0 num fA fn fc N Ad Ah cD cH c q (padN (q + n) c.data) (padB (q + n) c.hv) (p.data.take k) wc wr)) (fun i _ => n - (Go.RowKit.intOf i).toNat)
    case atStart => exact ⟨0, Nat.zero_le _, rfl, hide ⟨HC.out.1, HC.out.2.1, HC.out.2.2.1, Only.refl _ _⟩⟩
    case round =>
      obtain ⟨k, hk, rfl, HW⟩ := hrel
      rcases Nat.lt_or_ge k n with hlt | hge
      · obtain ⟨b, hb⟩ : ∃ x, p.data[k]? = some x := ⟨_, List.getElem?_eq_getElem (by rw [← HN.out]; exact hlt)⟩
        obtain ⟨hme, hdr, hhr, ho⟩ := HW.out
        obtain ⟨hAr, hXr⟩ := HAW.out wr ho
        obtain ⟨g1, o1, hpA, hcb⟩ := hAr k b hb
        have hNq : q + k < N := by rw [HN2.out]; omega
        obtain ⟨gd, od, cd', csd, hvd, hBd, -, -⟩ := off_blk hdr (by omega)
        injection hvd with h1 h2 h3
        subst h1 h3
        obtain ⟨gh, oh, ch', csh, hvh, hBh, -, -⟩ := off_blk hhr (by omega)
        injection hvh with h1 h2 h3
        subst h1 h3
        obtain ⟨R, hR⟩ : ∃ R, R = wrB (padN (q + n) c.data) (padB (q + n) c.hv) q (p.data.take k) := ⟨_, rfl⟩
        rw [← hR] at hdr hhr
        have hsn := wrB_snoc (p.data.take k) (padN (q + n) c.data) (padB (q + n) c.hv) q b
        have htk : p.data.take k ++ [b] = p.data.take (k + 1) := by rw [List.take_add_one, hb]; rfl
        have hlk : (p.data.take k).length = k := by rw [List.length_take, ← HN.out]; omega
        rw [htk, hlk, ← hR] at hsn
        have hl2 : R.2.length = N := by have := hhr.1; simpa using this
        obtain ⟨bq, hbq⟩ : ∃ bq, R.2[q + k]? = some bq := ⟨_, List.getElem?_eq_getElem (by rw [hl2]; exact hNq)⟩
        have hgd : R.2.getD (q + k) false = bq := by rw [List.getD_eq_getElem?_getD, hbq]; rfl
        rw [hgd] at hsn
        have hch := off_cells hhr rfl (q + k) (.bool bq) (by rw [List.getElem?_map, hbq]; rfl)
        obtain ⟨bd, hbd⟩ : ∃ bd, R.1[q + k]? = some bd := ⟨_, List.getElem?_eq_getElem (by have := hdr.1; simp [bcells] at this; omega)⟩
        have hcd := off_cells hdr rfl (q + k) (.int .u8 bd) (bcells_at hbd)
        have x5 := hXr.cell (i := 5) rfl
        have ltx := hXr.lt
        have d10 := hme.cell (i := 10) rfl
        have d11 := hme.cell (i := 11) rfl
        have lte := hme.lt
        have ltd := hBd.lt
        have lth := hBh.lt
        have fzd := hBd.frozen (od + (q + k))
        have fzh := hBh.frozen (oh + (q + k))
        have ndh : gd ≠ gh := fun h => absurd rfl (hBd.ne (h ▸ hBh) (by decide))
        have hch2 : (wr.setCell ⟨gd, od + (q + k), none⟩ (.int .u8 (b : Int))).drew.cell? ⟨gh, oh + (q + k), none⟩ = some (.bool bq) := off_cells (off_set hhr (p := ⟨gd, od + (q + k), none⟩) (by simpa [Value.ownBlock] using ndh.symm) (.int .u8 (b : Int))) rfl (q + k) (.bool bq) (by rw [List.getElem?_map, hbq]; rfl)
        have fzh2 : (wr.setCell ⟨gd, od + (q + k), none⟩ (.int .u8 (b : Int))).drew.frozen? ⟨gh, oh + (q + k), none⟩ = false := (hBh.far (p := ⟨gd, od + (q + k), none⟩) (by simpa using ndh.symm) (.int .u8 (b : Int))).frozen (oh + (q + k))
        have HSN := hide hsn
        have HR := hide (show _ ∧ _ ∧ _ ∧ _ ∧ _ ∧ _ from ⟨hme, hdr, hhr, ho, hBd, hBh⟩)
        have s1 : IntKind.i64.wrap ((q : Int) + (k : Int)) = (q : Int) + (k : Int) := by simp [IntKind.wrap, IntKind.bits, IntKind.signed]; omega
        have i0 : (0 : Int) ≤ (q : Int) + (k : Int) := by omega
        have i1 : (q : Int) + (k : Int) < (N : Int) := by omega
        have it : ((q : Int) + (k : Int)).toNat = q + k := by omega
        clear hb hme hdr hhr ho hAr hXr hBd hBh hR hsn htk hlk hl2 hbq hgd hbd
        rw [hpA] at x7
        cases bq with
        | true =>
          go_wp2
          go_roundw
          case rel =>
            refine ⟨k + 1, by omega, by go_num, hide ⟨HR.out.1, ?_, ?_, HR.out.2.2.2.1⟩⟩
            · rw [HSN.out, if_pos rfl]; exact HR.out.2.1
            · rw [HSN.out, if_pos rfl]; exact HR.out.2.2.1
          case measure => simp [Go.RowKit.intOf]; omega
        | false =>
          go_wp2
          refine wp_region_text 12 [] [9] [] (fun _ => True) (by kernel_rfl) (by kernel_rfl) trivial ?_
          simp only [List.take_succ_cons, List.take_zero, List.drop_succ_cons, List.drop_zero]
          repeat (first | ((refine wpText_h rfl rfl ?_; apply Exists.intro; refine ⟨?_, ?_⟩; next => (go_simp; (try (go_bits; go_simp)); (first | done | with_reducible rfl | (rw [if_neg (by omega)]; (try (go_bits; go_simp)); (first | done | with_reducible rfl)) | (rw [if_pos (by omega)]; (try (go_bits; go_simp)); (first | done | with_reducible rfl))))); (try simp only [Act.put, List.setIfInBounds_toArray, List.set_cons_zero, List.set_cons_succ])) | ((refine wpText_p rfl rfl ?_; apply Exists.intro; refine ⟨?_, ?_⟩; next => (intro w'; go_simp; (try (go_bits; go_simp)); (first | done | with_reducible rfl | (rw [if_neg (by omega)]; (try (go_bits; go_simp)); (first | done | with_reducible rfl)) | (rw [if_pos (by omega)]; (try (go_bits; go_simp)); (first | done | with_reducible rfl))))); (try simp only [Act.put, List.setIfInBounds_toArray, List.set_cons_zero, List.set_cons_succ])) | ((refine wpText_y rfl rfl ?_; apply Exists.intro; refine ⟨?_, ?_⟩; next => (intro w' hS; (first | obtain ⟨_, rfl⟩ := hS | skip); go_simp; (try (go_bits; go_simp)); (first | done | with_reducible rfl | (rw [if_neg (by omega)]; (try (go_bits; go_simp)); (first | done | with_reducible rfl)) | (rw [if_pos (by omega)]; (try (go_bits; go_simp)); (first | done | with_reducible rfl))))); (try simp only [Act.put, List.setIfInBounds_toArray, List.set_cons_zero, List.set_cons_succ])) | (refine wpText_skip (by first | exact .inl rfl | exact .inr (.inl rfl) | exact .inr (.inr rfl)) rfl ?_; (try simp only [Act.put, List.setIfInBounds_toArray, List.set_cons_zero, List.set_cons_succ])))
          refine wpText_nil ?_
          go_wp2
          refine NoX.normal ?_
          go_wp2
          rw [← hpA]
          go_roundw
          case rel =>
            have ngd : e0 ≠ gd := fun h => absurd rfl (HR.out.1.ne (h ▸ HR.out.2.2.2.2.1) (by decide))
            have ngh : e0 ≠ gh := fun h => absurd rfl (HR.out.1.ne (h ▸ HR.out.2.2.2.2.2) (by decide))
            refine ⟨k + 1, by omega, by go_num, hide ⟨(HR.out.1.drew.far (by simpa using ngd) _).far (by simpa using ngh) _, ?_, ?_, ?_⟩⟩
            · rw [HSN.out, if_neg (by decide)]
              have h1 := off_setIn (off_keep HR.out.2.1 (Only.refl [] wr).drew) rfl (p := q + k) (by omega) (.int .u8 (b : Int))
              rw [bcells_set]
              exact off_set h1 (by simpa [Value.ownBlock] using ndh) _
            · rw [HSN.out, if_neg (by decide)]
              have h1 := off_set (off_keep HR.out.2.2.1 (Only.refl [] wr).drew) (p := ⟨gd, od + (q + k), none⟩) (by simpa [Value.ownBlock] using ndh.symm) (.int .u8 (b : Int))
              have h2 := off_setIn h1 rfl (p := q + k) (by omega) (.bool true)
              rw [List.map_set]
              exact h2
            · exact (HR.out.2.2.2.1.drew.set (p := ⟨gd, od + (q + k), none⟩) (.inl (by simp [Value.ownBlock])) _).set (p := ⟨gh, oh + (q + k), none⟩) (.inl (by simp [Value.ownBlock])) _
          case measure => simp [Go.RowKit.intOf]; omega
      · obtain rfl : k = n := by omega
        obtain ⟨hme, hdr, hhr, ho⟩ := HW.out
        obtain ⟨-, hXr⟩ := HAW.out wr ho
        have htk : p.data.take k = p.data := List.take_of_length_le (by rw [← HN.out]; exact Nat.le_refl _)
        have hqo : q = p.off.toNat := by rw [HQ.out]; rfl
        have hw1 : wrB (padN (q + k) c.data) (padB (q + k) c.hv) q p.data = wrC c p p.data := by unfold wrC; rw [HEP.out, ← hqo]
        rw [htk, hw1] at hdr hhr
        have hlD : (wrC c p p.data).1.length = N := by have := hdr.1; simpa [bcells] using this
        have hlH : (wrC c p p.data).2.length = N := by have := hhr.1; simpa using this
        have HF := hide (show ∀ (wf : World) (l : Int), Blk wf e0 colT [I64 c.bg, I64 num, .int .u32 c.h.src, .int .u32 c.h.dst, I64 c.h.proto, I64 c.h.ttl, I64 c.h.id, I64 c.h.off, .bool c.h.more, .slice fA fn fc, .slice Ad N cD, .slice Ah N cH, I64 l, I64 ((c.cnt : Int) + 1)] →
            Only [e0] wr wf → l = (stepC c p).len → AddS base ⟨e0, num, fA, fn, fc, .slice ad dl cd, .slice ah dl ch⟩ (stepC c p) w (.returned (.tuple #[])) wf from by
          intro wf l hb hof hl
          subst hl
          have hdf := off_only hdr hof (fun k hk => by simp; rintro rfl; exact off_ne_blk hdr hme (by decide) hk)
          have hhf := off_only hhr hof (fun k hk => by simp; rintro rfl; exact off_ne_blk hhr hme (by decide) hk)
          have e1 : ((stepC c p).cnt : Int) = (c.cnt : Int) + 1 := by unfold stepC; simp
          refine ⟨.tuple #[], .slice Ad N cD, .slice Ah N cH, rfl, ⟨?_, ?_, ?_, ?_, HH.out.2⟩, ?_, ?_, ?_⟩
          · show Blk wf e0 colT [I64 c.bg, I64 num, .int .u32 c.h.src, .int .u32 c.h.dst, I64 c.h.proto, I64 c.h.ttl, I64 c.h.id, I64 c.h.off, .bool c.h.more, .slice fA fn fc, .slice Ad N cD, .slice Ah N cH, I64 (stepC c p).len, I64 ((stepC c p).cnt : Int)]
            rw [e1]
            exact hb
          · show offRow wf base u8T 1 (.slice Ad N cD) (wrC c p p.data).1.length (bcells (wrC c p p.data).1)
            rw [hlD]
            exact hdf
          · show offRow wf base boolT 1 (.slice Ah N cH) (wrC c p p.data).2.length ((wrC c p p.data).2.map Value.bool)
            rw [hlH]
            exact hhf
          · show (wrC c p p.data).2.length = (wrC c p p.data).1.length
            rw [hlD, hlH]
          · have o1 : Only (e0 :: ((Value.slice ad dl cd).ownBlock.toList ++ (Value.slice ah dl ch).ownBlock.toList)) w wc := (H2.out.2.2.2.2.mono (by simp)).trans' HC.out.2.2.2.1 (fun _ h _ => h)
            refine (o1.trans' ho ?_).trans' hof (by simp)
            intro i hi hlt
            have hz := H2.out.2.2.2.2.size
            rcases List.mem_append.1 hi with h1 | h1
            · rcases HC.out.2.2.2.2.1 with h2 | h2
              · rw [h2] at h1; simp only [List.mem_cons, List.mem_append]; exact .inr (.inl h1)
              · have := h2 _ (mem_own.1 h1); omega
            · rcases HC.out.2.2.2.2.2.1 with h2 | h2
              · rw [h2] at h1; simp only [List.mem_cons, List.mem_append]; exact .inr (.inr h1)
              · have := h2 _ (mem_own.1 h1); omega
          · exact HC.out.2.2.2.2.1.imp id (fun h k hk => Nat.le_trans H2.out.2.2.2.2.size (h k hk))
          · exact HC.out.2.2.2.2.2.1.imp id (fun h k hk => Nat.le_trans H2.out.2.2.2.2.size (h k hk)))
        have x6 := hXr.cell (i := 6) rfl
        have ltx := hXr.lt
        have d12 := hme.cell (i := 12) rfl
        have f12 := hme.frozen 12
        have lte := hme.lt
        have HM := hide hme
        clear hme hdr hhr ho hXr htk hqo hw1 hlD hlH hk
        have HLN := hide (show (stepC c p).len = if p.more = false ∧ c.len < 0 then ((q + k : Nat) : Int) else c.len by unfold stepC; rw [HEP.out])
        cases hmo : p.more with
        | true =>
          rw [hmo] at x6
          have HMO := hide hmo
          clear hmo
          go_wp2
          go_end0
          exact HF.out _ _ HM.out (Only.refl _ _) (by rw [HLN.out, HMO.out]; simp)
        | false =>
          rw [hmo] at x6
          have HMO := hide hmo
          clear hmo
          by_cases hl : c.len < 0
          · have HL := hide hl
            go_wp2
            go_end0
            exact HF.out _ _ (HM.out.set 12 _) ((Only.refl _ _).set (p := ⟨e0, 12, none⟩) (.inl (by simp)) _) (by rw [HLN.out, HMO.out, if_pos ⟨rfl, HL.out⟩]; simp)
          · have HL := hide hl
            go_wp2
            go_end0
            exact HF.out _ _ HM.out (Only.refl _ _) (by rw [HLN.out, HMO.out, if_neg (fun h => absurd h.2 (Int.not_lt.2 HL.out))])

end Go.Proofs.Ytlnejlhdkmneeaa
