/- PacketsTogether answers true. -/
import Derived.Test.YtlnejlhdkmneeaaTogR
import Derived.Test.YtlnejlhdkmneeaaAddH
import Derived.Test.YtlnejlhdkmneeaaRefA
import Derived.Deep.DeepCutAuto
import Derived.Deep.CutBlock
import Derived.BigFrame
namespace Go.Proofs.Ytlnejlhdkmneeaa
open Go.RowKit

def Pkt.zero (p : Pkt) : Pkt := { p with off := 0, more := false }
theorem addr_add (g j : Nat) : (⟨g, 0, none⟩ : Addr).add j = ⟨g, j, none⟩ := by unfold Addr.add; split <;> simp_all
theorem pcells_one (p : Pkt) : ∀ u ∈ p.cells, u.oneCell' = true := by
  intro u hu
  simp only [Pkt.cells, List.mem_cons, List.not_mem_nil, or_false] at hu
  rcases hu with rfl | rfl | rfl | rfl | rfl | rfl | rfl | rfl <;> rfl
theorem LieC.at {w : World} {f : Pkt} {n : Nat} {qs : List Pkt} {A : Option Addr} {c : Nat} (h : LieC w (fragsL (f.at A c) n) qs) : LieC w (fragsL f n) qs := by
  unfold fragsL at h ⊢
  have hd : (f.at A c).data = f.data := rfl
  rw [hd] at h
  split at h
  · rename_i hle
    rw [if_pos hle]
    refine ⟨h.1, fun k p hp => ?_⟩
    cases k with
    | zero =>
      obtain rfl : f = p := by simpa using hp
      obtain ⟨B, d, h1, h2⟩ := h.2 0 (f.at A c) rfl
      exact ⟨B, d, h1, h2⟩
    | succ k => simp at hp
  · rename_i hle
    rw [if_neg hle]
    exact h
theorem fragsL_at (f : Pkt) (n : Nat) (A : Option Addr) (c : Nat) : (fragsL (f.at A c) n).length = (fragsL f n).length := by
  unfold fragsL
  have hd : (f.at A c).data = f.data := rfl
  rw [hd]
  split <;> simp
/-- Bytes and capacities stay where a row of packets has turned. -/
theorem LieC.row {w w' : World} {l qs : List Pkt} {base n : Nat} {v : Value} {xs : List Value} (h : LieC w l qs) (hr : offRow w base pktT 8 v n xs) (ho : Only v.ownBlock.toList w w') : LieC w' l qs :=
  ⟨h.1, fun k p hp => by
    obtain ⟨A, c, h1, h2, h3⟩ := h.2 k p hp
    refine ⟨A, c, h1, ⟨h2.1.sameOn (fun j cs hj => ho.block j hj.lt (fun hm => ?_)), h2.2⟩, h3⟩
    exact off_ne_blk hr hj (by decide) (mem_own.1 hm)⟩
/-- The list of all fragments grows. -/
def AllI (Wb : World) (l1 : List Pkt) (n2 k m : Nat) (v : Value) (wr : World) : Prop :=
  ∃ qs, offRow wr Wb.heap.size pktT 8 v m (qs.flatMap Pkt.cells) ∧ LieC wr (allF l1 n2 k) qs ∧ (allF l1 n2 k).length = m ∧ Only [] Wb wr

abbrev intT : TypeId := 3
theorem int_info : (Try.prog.info? intT).map (fun i => (i.zero, i.size, i.bytes)) = some (some (.int .i64 0), 1, 8) := by kernel_rfl
theorem made_bools (n : Nat) : (madeCells #[.bool false] n).toList = (List.replicate n false).map Value.bool := by
  apply List.ext_getElem?
  intro j
  by_cases hj : j < n
  · simp [madeCells, hj, Nat.mod_one]
  · rw [List.getElem?_eq_none (by simp [madeCells]; omega), List.getElem?_eq_none (by simp; omega)]
theorem make_bools (n : Nat) (hn : n ≤ 1000) : ∀ W : World, (Instr.makeSlice 81 (I64 (n : Int)) (I64 (n : Int))).run Try.prog W = .ok (.slice (some ⟨W.heap.size, 0, none⟩) n n) (W.alloc (.cells (madeCells #[.bool false] n) boolT)) := by
  obtain ⟨i0, hi0, hz0, hs0, hb0⟩ := info_parts bool_info1
  intro W
  have hr := run_make (P := Try.prog) W 81 boolT i0 _ Try.underlying81 hi0 hz0 .i64 .i64 n n (by omega) (by omega) (by rw [hb0]; omega) (by omega)
  simp only [hs0, Nat.mul_one, Int.toNat_natCast] at hr
  exact hr
/-- While the queue is laid. -/
def QueW (Bs m : Nat) (Wc : World) (left : Nat) (v : Value) (mq : Nat) (wr : World) : Prop :=
  ∃ S Q, QueI m S left Q ∧ Q.length = mq ∧ Blk wr Bs boolT (S.map Value.bool) ∧ offRow wr Wc.heap.size intT 1 v mq (Q.map fun i => I64 (i : Nat)) ∧ Only [Bs] Wc wr
def QueV (Bs m : Nat) (Wc : World) (S : List Bool) (j : Nat) (v : Value) (mq : Nat) (wr : World) : Prop :=
  ∃ Q, QueJ m S j Q ∧ Q.length = mq ∧ Blk wr Bs boolT (S.map Value.bool) ∧ offRow wr Wc.heap.size intT 1 v mq (Q.map fun i => I64 (i : Nat)) ∧ Only [Bs] Wc wr
theorem QueJ.mq {n i : Nat} {S : List Bool} {Q : List Nat} (h : QueJ n S i Q) : Q.length ≤ 64 := by have := h.cnt; omega
theorem LieC.far {w w' : World} {l qs : List Pkt} {g : Nat} {t : TypeId} {cs : List Value} (h : LieC w l qs) (hb : Blk w g t cs) (ht : t ≠ u8T) (ho : Only [g] w w') : LieC w' l qs :=
  ⟨h.1, fun k p hp => by
    obtain ⟨A, c, h1, h2, h3⟩ := h.2 k p hp
    exact ⟨A, c, h1, ⟨h2.1.sameOn (fun j cs hj => ho.block j hj.lt (by simpa using hj.ne hb (Ne.symm ht))), h2.2⟩, h3⟩⟩
theorem RzAt.fresh2 {w' : World} {b base : Nat} (hm : PtrMap w' keyT b 0 0 (fun _ => none)) (hb : Blk w' (b + 1) rasT [.map (some b), I64 0, I64 0]) (h : base ≤ b) : RzAt base (b + 1) b 0 w' 0 0 [] :=
  ⟨hb, hm, by simp, .nil, .nil, .nil, by simp, by simp, by omega, h⟩
theorem RzAt.lt2 {base r b M : Nat} {w : World} {num last : Int} {l : List PC} (h : RzAt base r b M w num last l) : ∀ j ∈ r :: b :: feet l, j < w.heap.size := by
  intro j hj
  simp only [List.mem_cons] at hj
  rcases hj with rfl | rfl | h1
  · exact h.me.lt
  · exact h.mp.lt
  · obtain ⟨x, hx, hk⟩ := mem_feet.1 h1
    exact (h.cols x hx).lt hk
theorem RzAt.ge2 {base r b M : Nat} {w : World} {num last : Int} {l : List PC} (h : RzAt base r b M w num last l) : ∀ j ∈ r :: b :: feet l, base ≤ j := by
  intro j hj
  simp only [List.mem_cons] at hj
  rcases hj with rfl | rfl | h1
  · exact h.rb
  · exact h.bb
  · obtain ⟨x, hx, hk⟩ := mem_feet.1 h1
    exact (h.cols x hx).ge hk
theorem TogI.fit {p f : Pkt} {F : List Pkt} {Q : List Nat} {l : List Col} {i : Nat} (h : TogI p F Q l) (hi : F[i]? = some f) : f.src = p.src ∧ f.dst = p.dst ∧ f.proto = p.proto ∧ f.id = p.id ∧ f.data.length ≤ p.data.length := by
  have hil := (List.getElem?_eq_some_iff.1 hi).1
  rcases h with ⟨h1, -, -, h2⟩ | ⟨-, s, -, hf, -⟩
  · obtain rfl : i = 0 := by omega
    have h3 := (h2 f hi).2.2.2 none 0
    have e1 : f.src = p.src := by have h9 := congrArg Pkt.src h3; exact h9
    have e2 : f.dst = p.dst := by have h9 := congrArg Pkt.dst h3; exact h9
    have e3 : f.proto = p.proto := by have h9 := congrArg Pkt.proto h3; exact h9
    have e4 : f.id = p.id := by have h9 := congrArg Pkt.id h3; exact h9
    have e5 : f.data = p.data := by have h9 := congrArg Pkt.data h3; exact h9
    exact ⟨e1, e2, e3, e4, by rw [e5]; exact Nat.le_refl _⟩
  · have h3 := hf i f hi
    refine ⟨h3.src, h3.dst, h3.proto, h3.id, ?_⟩
    rw [h3.data, List.length_take, List.length_drop]
    omega
/-- Behind j arrivals. -/
def TogW (Wf : World) (p : Pkt) (F : List Pkt) (Q : List Nat) (r b Bh j seen : Nat) (wr : World) : Prop :=
  ∃ (H : List Bool) (Qd : List Nat) (M : Nat) (num clock : Int) (lz : List PC), SeenI F.length H seen Qd ∧ TogI p F Qd (lz.map (·.2)) ∧ Qd.length = j ∧ (∀ x, x ∈ Qd ↔ x ∈ Q.take j) ∧ (¬ ∀ x, x < F.length → x ∈ Qd) ∧ Blk wr Bh boolT (H.map Value.bool) ∧
    RzAt Wf.heap.size r b M wr num clock lz ∧ M ≤ j ∧ (0 ≤ num ∧ num ≤ (j : Int)) ∧ clock ≤ (j : Int) ∧ Bh ∉ r :: b :: feet lz ∧ Wf.heap.size ≤ Bh ∧ Only [] Wf wr
/-- Behind the question who has come. -/
def SeenW (n Bh : Nat) (Qd : List Nat) (W : World) (s : Value) (wx : World) : Prop :=
  ∃ (seen : Nat) (H : List Bool), s = .int .i64 seen ∧ SeenI n H seen Qd ∧ Blk wx Bh boolT (H.map Value.bool) ∧ Only [Bh] W wx
theorem QueI.mq {n left : Nat} {S : List Bool} {Q : List Nat} (h : QueI n S left Q) : Q.length ≤ 64 := by have := h.cnt; omega

set_option maxRecDepth 100000 in
set_option maxHeartbeats 32000000 in
theorem lawtog (p0 : Pkt) (L1 L2 : Nat) (Ao : Option Addr) (no co : Nat) (ord : List Nat) (w : World) (hf : p0.Fit) (hA : NumsIn w .u8 p0.A p0.data) (hA0 : p0.A = none → p0.data.length = 0 ∧ p0.cap = 0) (hcap : p0.data.length ≤ p0.cap) (hpl : p0.data.length ≤ maxLen)
    (hL1 : L1 ≤ 65535) (hL2 : L2 ≤ 65535) (hno : ord.length = no) (hnm : no ≤ maxLen) (hO : NumsIn w .u8 Ao ord) (hob : ∀ x ∈ ord, x ≤ 255) :
    Calls Try.prog 10 #[p0.V, .agg #[.int .u16 (L1 : Int), .int .u16 (L2 : Int)], .slice Ao no co] w fun e w' => e = .returned (.bool true) ∧ Only [] w w' := by
  show Calls Try.prog 10 #[.agg #[.int .u32 p0.src, .int .u32 p0.dst, I64 p0.proto, I64 p0.ttl, I64 p0.id, I64 p0.off, .bool p0.more, .slice p0.A p0.data.length p0.cap], .agg #[.int .u16 (L1 : Int), .int .u16 (L2 : Int)], .slice Ao no co] w _
  obtain ⟨p, hp⟩ : ∃ p, p = p0.zero := ⟨_, rfl⟩
  have HP := hide (show p.off = 0 ∧ p.more = false ∧ p.Fit ∧ NumsIn w .u8 p.A p.data ∧ (p.A = none → p.data.length = 0 ∧ p.cap = 0) ∧ p.data.length ≤ p.cap from by rw [hp]; exact ⟨rfl, rfl, ⟨hf.src0, hf.src1, hf.dst0, hf.dst1, hf.bytes⟩, hA, hA0, hcap⟩)
  have HPL := hide (show p.data.length ≤ maxLen by rw [hp]; exact hpl)
  have hnm' : no ≤ 9223372036854775807 := by unfold maxLen at hnm; exact hnm
  have HO := hide (show _ ∧ _ ∧ _ from ⟨hno, hO, hob⟩)
  have hdl : p0.data.length = p.data.length := by rw [hp]; rfl
  have HDL := hide hdl
  have HPP := hide hp
  clear hf hA hA0 hcap hno hO hob hpl hnm hdl hp
  go_enter Try.func10, Try.ntmps10
  go_upto_region 2 with (fail)
  obtain ⟨W, hW⟩ : ∃ W, W = (w.alloc (.cells #[.int .u32 p0.src, .int .u32 p0.dst, I64 p0.proto, I64 p0.ttl, I64 p0.id, I64 0, .bool false, .slice p0.A p0.data.length p0.cap] pktT)).alloc (.cells #[.int .u16 (L1 : Int), .int .u16 (L2 : Int)] 80) := ⟨_, rfl⟩
  rw [show (w.alloc (.cells #[.int .u32 p0.src, .int .u32 p0.dst, I64 p0.proto, I64 p0.ttl, I64 p0.id, I64 0, .bool false, .slice p0.A p0.data.length p0.cap] pktT)).alloc (.cells #[.int .u16 (L1 : Int), .int .u16 (L2 : Int)] 80) = W from hW.symm]
  obtain ⟨B, hB⟩ : ∃ B, B = w.heap.size := ⟨_, rfl⟩
  rw [← hB]
  have o1 : Only [] w W := by rw [hW]; exact ((Only.refl [] w).alloc _).alloc _
  have b3 : Blk W B pktT p.cells := by rw [hW, hB, HPP.out]; exact Blk.alloc (Blk.newA rfl) _
  have b4 : Blk W (B + 1) 80 [.int .u16 (L1 : Int), .int .u16 (L2 : Int)] := by rw [hW, hB]; exact Blk.newA (by simp)
  have H1 := hide (show _ ∧ _ ∧ _ ∧ _ from ⟨o1, b3, b4, hB⟩)
  obtain ⟨f0, f1, f2, f3, f4, f5, f6, f7⟩ := b3.pkt8
  have ltf := b3.lt
  clear o1 b3 b4 hW hB
  go_wp2_with fail
  refine (Valid_ok p _ HPL.out).mono ?_
  rintro e w1 ⟨rfl, ho1⟩
  have H2 := hide (show _ ∧ _ ∧ _ from ⟨H1.out.1.trans ho1, ho1.blk H1.out.2.1 (by simp), ho1.blk H1.out.2.2.1 (by simp)⟩)
  clear ho1 f0 f1 f2 f3 f4 f5 f6 f7 ltf
  obtain ⟨f0, f1, f2, f3, f4, f5, f6, f7⟩ := H2.out.2.1.pkt8
  have ltf := H2.out.2.1.lt
  by_cases hv : p.valid = 0
  · rw [hv]
    have HV := hide hv
    clear hv
    by_cases hbig : 2000 < p.data.length
    · have hb1 : (2000 : Int) < (p.data.length : Int) := by omega
      go_wp2_with fail
      refine (awake_ok _).mono ?_
      rintro e w9 ⟨rfl, ho⟩
      have HZ := hide (H2.out.1.trans ho)
      clear ho
      go_wp2
      go_ret
      exact ⟨rfl, HZ.out⟩
    · have hb1 : ¬ (2000 : Int) < (p.data.length : Int) := by omega
      by_cases hob : 200 < no
      · have hb2 : (200 : Int) < (no : Int) := by omega
        go_wp2_with fail
        refine (awake_ok _).mono ?_
        rintro e w9 ⟨rfl, ho⟩
        have HZ := hide (H2.out.1.trans ho)
        clear ho
        go_wp2
        go_ret
        exact ⟨rfl, HZ.out⟩
      · have hb2 : ¬ (200 : Int) < (no : Int) := by omega
        go_upto_region 4 with (fail)
        have x4 := H2.out.2.2.cell (i := 0) rfl
        have lt4 := H2.out.2.2.lt
        obtain ⟨n1, hn1⟩ : ∃ n, n = 100 + L1 % 2000 := ⟨_, rfl⟩
        obtain ⟨n2, hn2⟩ : ∃ n, n = 100 + L2 % 2000 := ⟨_, rfl⟩
        have HN2 := hide hn2
        have g1 : 28 ≤ n1 ∧ n1 ≤ 100000 := by omega
        have g2 : 28 ≤ n2 ∧ n2 ≤ 100000 := by omega
        clear hn2
        go_wp2_with fail
        rw [show (100 + (L1 : Int) % 2000) = ((n1 : Nat) : Int) by omega]
        clear hn1
        refine (fragC_ok p n1 _ (by omega) (fun hb => by have h1 := HV.out; rw [Pkt.valid_bad hb] at h1; cases h1) g1.1 g1.2 (HP.out.2.2.2.1.only H2.out.1) HP.out.2.2.2.2.1 HP.out.2.2.2.2.2).mono ?_
        rintro e w2 ⟨ga, ca, qs1, rfl, hca, hla, ho2⟩
        have HTC := hide (twoCuts (n1 := n1) (n2 := n2) HV.out HP.out.1 HP.out.2.1 g1.1 g2.1)
        obtain ⟨l1, hl1⟩ : ∃ l, l = fragsL p n1 := ⟨_, rfl⟩
        rw [← hl1] at hla ⊢
        have HL1 := hide hl1
        obtain ⟨N1, hN1⟩ : ∃ N, N = l1.length := ⟨_, rfl⟩
        have hN1b : N1 ≤ 2001 := by have h1 := HTC.out.pos.2; rw [← HL1.out] at h1; omega
        have HN1 := hide hN1
        rw [← hN1]
        have H3 := hide (show _ ∧ _ ∧ _ ∧ _ ∧ _ from ⟨H2.out.1.trans ho2, ho2.blk H2.out.2.1 (by simp), ho2.blk H2.out.2.2 (by simp), hca, hla⟩)
        have HT := hide (show AllI w2 l1 n2 0 0 (.slice none 0 0) w2 from ⟨[], off_nil _ _ _ _, LieC.nil _, rfl, Only.refl _ _⟩)
        clear hl1 hN1 hca hla ho2 f0 f1 f2 f3 f4 f5 f6 f7 ltf x4 lt4 hb1 hb2
        go_wp2
        go_loopw [9, 60] (fun v i wr => ∃ (k m : Nat) (Av : Option Addr) (cv : Nat), k ≤ N1 ∧ i = .int .i64 k ∧ v = .slice Av m cv ∧ Hid (AllI w2 l1 n2 k m (.slice Av m cv) wr)) (fun _ i _ => N1 - (Go.RowKit.intOf i).toNat)
        case atStart => exact ⟨0, 0, none, 0, Nat.zero_le _, rfl, rfl, HT⟩
        case round =>
          obtain ⟨k, m, Av, cv, hk, rfl, rfl, HW⟩ := hrel
          obtain ⟨qs, hrow, hlie, hmm, ho⟩ := HW.out
          rcases Nat.lt_or_ge k N1 with hlt | hge
          · obtain ⟨f, hf⟩ : ∃ f, l1[k]? = some f := ⟨_, List.getElem?_eq_getElem (by rw [← HN1.out]; exact hlt)⟩
            obtain ⟨A, cA, hqf, hbc, hno⟩ := (H3.out.2.2.2.2.only ho).2 k f hf
            have hcell : ∀ j u, (f.at A cA).cells[j]? = some u → wr.cell? ⟨ga, k * 8 + j, none⟩ = some u := fun j u hu => by
              have h1 := H3.out.2.2.2.1 (k * 8 + j) u (flat_at (enc := Pkt.cells) (sz := 8) (fun _ => rfl) qs1 k _ j u hqf hu)
              rw [World.cell?_of_block (w := w2) (ho.block ga (World.block_lt_of_cell? _ _ h1) (by simp))]
              exact h1
            have y0 := hcell 0 _ rfl
            rw [Nat.add_zero] at y0
            have y1 := hcell 1 _ rfl
            have y2 := hcell 2 _ rfl
            have y3 := hcell 3 _ rfl
            have y4 := hcell 4 _ rfl
            have y5 := hcell 5 _ rfl
            have y6 := hcell 6 _ rfl
            have y7 := hcell 7 _ rfl
            obtain ⟨hfv, hfd⟩ := HTC.out.one k f (by rw [← HL1.out]; exact hf)
            have hb4 := ho.blk H3.out.2.2.1 (by simp)
            have HF := hide (show _ ∧ _ ∧ _ ∧ _ ∧ _ ∧ _ ∧ _ ∧ _ ∧ _ from ⟨hf, hbc, hno, hfv, hfd, hrow, hlie, And.intro hmm ho, hb4⟩)
            clear hcell hqf hbc hno hfv hfd hrow hlie hmm ho hb4 HW hf
            go_upto_region 11 with (fail)
            obtain ⟨W5, hW5⟩ : ∃ W, W = wr.alloc (.cells (f.at A cA).cells.toArray pktT) := ⟨_, rfl⟩
            rw [show wr.alloc (.cells #[.int .u32 (f.at A cA).src, .int .u32 (f.at A cA).dst, .int .i64 (f.at A cA).proto, .int .i64 (f.at A cA).ttl, .int .i64 (f.at A cA).id, .int .i64 (f.at A cA).off, .bool (f.at A cA).more, .slice (f.at A cA).A (f.at A cA).data.length (f.at A cA).cap] pktT) = W5 from hW5.symm]
            obtain ⟨G, hG⟩ : ∃ G, G = wr.heap.size := ⟨_, rfl⟩
            rw [← hG]
            have o5 : Only [] wr W5 := by rw [hW5]; exact (Only.refl [] wr).alloc _
            have b5 : Blk W5 G pktT (f.at A cA).cells := by rw [hW5, hG]; exact Blk.newA (by simp)
            have H5 := hide (show _ ∧ _ ∧ _ from ⟨o5, b5, o5.blk HF.out.2.2.2.2.2.2.2.2 (by simp)⟩)
            clear o5 b5 hW5 hG y0 y1 y2 y3 y4 y5 y6 y7
            obtain ⟨f0, f1, f2, f3, f4, f5, f6, f7⟩ := H5.out.2.1.pkt8
            have ltf := H5.out.2.1.lt
            have x5 := H5.out.2.2.cell (i := 1) rfl
            have lt5 := H5.out.2.2.lt
            go_wp2_with fail
            rw [show (100 + (L2 : Int) % 2000) = ((n2 : Nat) : Int) by have := HN2.out; omega]
            refine (fragC_ok (f.at A cA) n2 _ (show f.data.length ≤ 100000 by have h1 := HF.out.2.2.2.2.1; omega) (fun hb => by have h1 : (f.at A cA).valid = 0 := HF.out.2.2.2.1; rw [Pkt.valid_bad hb] at h1; cases h1) g2.1 g2.2 ((HF.out.2.1.only H5.out.1).nums) (fun e => by obtain ⟨h1, h2⟩ := HF.out.2.2.1 e; exact ⟨by show f.data.length = 0; rw [h1]; rfl, h2⟩) HF.out.2.1.2).mono ?_
            rintro e w5 ⟨gb, cb, qs2, rfl, hcb, hlb, ho5⟩
            rw [fragsL_at]
            obtain ⟨l2, hl2⟩ : ∃ l, l = fragsL f n2 := ⟨_, rfl⟩
            obtain ⟨m2, hm2⟩ : ∃ m, m = l2.length := ⟨_, rfl⟩
            have hlb2 := hlb.at
            rw [← hl2] at hlb2 ⊢
            rw [← hm2]
            have hnext := allF_succ (n2 := n2) HF.out.1
            rw [← hl2] at hnext
            have hmb : m + m2 ≤ 2001 := by
              have h1 := HTC.out.len (k + 1) (by rw [← HL1.out, ← HN1.out]; exact hlt)
              rw [← HL1.out, hnext, List.length_append, HF.out.2.2.2.2.2.2.2.1.1, ← hm2] at h1
              omega
            have o15 := H5.out.1.trans ho5
            have H6 := hide (show _ ∧ _ ∧ _ ∧ _ ∧ _ ∧ _ ∧ _ from ⟨hcb, hlb2, hm2, hnext, off_keep HF.out.2.2.2.2.2.1 o15, HF.out.2.2.2.2.2.2.1.only o15, HF.out.2.2.2.2.2.2.2.1.2.trans o15⟩)
            clear hl2 hm2 hlb hlb2 hnext hcb ho5 o15 f0 f1 f2 f3 f4 f5 f6 f7 ltf x5 lt5
            obtain ⟨i0, hi0, hz0, hs0, hb0⟩ := info_parts packet_info
            go_wp2_with (at_builtin; refine wpList_append_off _ rfl (.tmp 76) (.tmp 77) 39 rfl pktT i0 (.agg zsP.toArray) 8 72 Try.underlying39 hi0 hz0 hs0 hb0 rfl (by decide) w2.heap.size (.slice Av m cv) m (qs.flatMap Pkt.cells) rfl H6.out.2.2.2.2.1 H6.out.2.2.2.2.2.2.size ⟨gb, 0, none⟩ m2 cb (qs2.flatMap Pkt.cells) rfl ?_ ?_ ?_ (by simp only [maxLen]; omega) (by omega) ?_)
            · rw [flat_len (enc := Pkt.cells) (sz := 8) (fun _ => rfl), H6.out.2.1.1, ← H6.out.2.2.1]
            · intro j u hu
              rw [addr_add]
              exact H6.out.1 j u hu
            · intro u hu
              obtain ⟨q, -, hq⟩ := List.mem_flatMap.1 hu
              exact pcells_one q u hq
            intro v7 w7 hr7 ho7 hv7
            obtain ⟨A7, c7, rfl⟩ := off_shape hr7
            have HE := hide (show AllI w2 l1 n2 (k + 1) (m + m2) (.slice A7 (m + m2) c7) w7 from by
              refine ⟨qs ++ qs2, by rw [List.flatMap_append]; exact hr7, ?_, ?_, H6.out.2.2.2.2.2.2.trans' ho7 (fun i hi hl => by have := (off_ge H6.out.2.2.2.2.1 i (mem_own.1 hi)).1; omega)⟩
              · rw [H6.out.2.2.2.1]
                exact (H6.out.2.2.2.2.2.1.row H6.out.2.2.2.2.1 ho7).append (H6.out.2.1.row H6.out.2.2.2.2.1 ho7)
              · rw [H6.out.2.2.2.1, List.length_append, HF.out.2.2.2.2.2.2.2.1.1, ← H6.out.2.2.1])
            clear hr7 ho7 hv7
            go_wp2
            go_roundw
            case rel => exact ⟨k + 1, m + m2, A7, c7, by omega, by go_num, rfl, HE⟩
            case measure => simp [Go.RowKit.intOf]; omega
          · obtain rfl : k = N1 := by omega
            obtain ⟨F, hF⟩ : ∃ F, F = allF l1 n2 k := ⟨_, rfl⟩
            have htog : TogF p F := by
              have h1 := HTC.out.tog
              rw [← HL1.out, ← HN1.out, ← hF] at h1
              exact h1
            rw [← hF] at hlie hmm
            have hm1 : 1 ≤ m := by
              rw [← hmm]
              rcases htog with h1 | h1
              · rw [h1]; simp
              · exact List.length_pos_iff.2 h1.ne
            have HB := hide (show _ ∧ _ ∧ _ ∧ _ ∧ _ ∧ _ ∧ _ from ⟨htog, hmm, hrow, hlie, ho, ho.blk H3.out.2.1 (by simp), H3.out.1.trans ho⟩)
            clear hF htog hlie hmm hrow ho HW HT
            have d0 : ((m : Int) == 0) = false := by simp; omega
            by_cases h60 : 60 < m
            · have hb6 : (60 : Int) < (m : Int) := by omega
              go_wp2_with fail
              refine (awake_ok _).mono ?_
              rintro e w9 ⟨rfl, ho⟩
              have HZ := hide (HB.out.2.2.2.2.2.2.trans ho)
              clear ho
              go_wp2
              go_ret
              exact ⟨rfl, HZ.out⟩
            · have hb6 : ¬ (60 : Int) < (m : Int) := by omega
              have e20 : IntKind.i64.wrap (64 - (m : Int)) = ((64 - m : Nat) : Int) := by simp [IntKind.wrap, IntKind.bits, IntKind.signed]; omega
              have hmk := make_bools m (by omega)
              go_upto_region 22 with (fail)
              obtain ⟨Wc, hWc⟩ : ∃ W, W = wr.alloc (.cells (madeCells #[.bool false] m) boolT) := ⟨_, rfl⟩
              rw [show wr.alloc (.cells (madeCells #[.bool false] m) boolT) = Wc from hWc.symm]
              obtain ⟨Bs, hBs⟩ : ∃ G, G = wr.heap.size := ⟨_, rfl⟩
              rw [← hBs]
              have oc : Only [] wr Wc := by rw [hWc]; exact (Only.refl [] wr).alloc _
              have bs : Blk Wc Bs boolT ((List.replicate m false).map Value.bool) := by rw [hWc, hBs]; exact Blk.to (Blk.newA rfl) (made_bools m)
              have hwc : w.heap.size ≤ Bs := by rw [hBs]; exact HB.out.2.2.2.2.2.2.size
              have HC := hide (show _ ∧ _ ∧ _ ∧ _ ∧ _ ∧ _ from ⟨off_keep HB.out.2.2.1 oc, HB.out.2.2.2.1.only oc, oc.blk HB.out.2.2.2.2.2.1 (by simp), HB.out.2.2.2.2.2.2.trans oc, And.intro hwc hBs, And.intro oc.size oc⟩)
              have HT := hide (show QueW Bs m Wc (64 - m) (.slice none 0 0) 0 Wc from ⟨_, [], QueI.start (by omega), rfl, bs, off_nil _ _ _ _, Only.refl _ _⟩)
              clear oc bs hwc hWc hBs e20 hmk
              go_wp2
              go_loopw [14, 16, 95] (fun lv qv iv wr => ∃ (j left mq : Nat) (Aq : Option Addr) (cq : Nat), j ≤ no ∧ iv = .int .i64 j ∧ lv = .int .i64 left ∧ qv = .slice Aq mq cq ∧ Hid (QueW Bs m Wc left (.slice Aq mq cq) mq wr)) (fun _ _ i _ => no - (Go.RowKit.intOf i).toNat)
              case atStart => exact ⟨0, 64 - m, 0, none, 0, Nat.zero_le _, rfl, rfl, rfl, HT⟩
              case round =>
                obtain ⟨j, left, mq, Aq, cq, hj, rfl, rfl, rfl, HW⟩ := hrel
                obtain ⟨S, Q, hQ, hQl, hbs, hrq, ho⟩ := HW.out
                rcases Nat.lt_or_ge j no with hlt | hge
                · obtain ⟨b, hb⟩ : ∃ b, ord[j]? = some b := ⟨_, List.getElem?_eq_getElem (by rw [HO.out.1]; exact hlt)⟩
                  obtain ⟨bo, oo, rfl, hcb⟩ := HO.out.2.1 j b hb
                  have hb255 := HO.out.2.2 b (List.mem_of_getElem? hb)
                  have hbo : bo < w.heap.size := World.block_lt_of_cell? _ _ hcb
                  have hcb2 : wr.cell? ⟨bo, oo + j, none⟩ = some (.int .u8 (b : Int)) := by
                    rw [← hcb]
                    have h1 := HC.out.2.2.2.2.1.1
                    exact World.cell?_of_block ((ho.block bo (Nat.lt_of_lt_of_le hbo HC.out.2.2.2.1.size) (by simp; omega)).trans (HC.out.2.2.2.1.block bo hbo (by simp)))
                  obtain ⟨i, hi⟩ : ∃ i, i = b % m := ⟨_, rfl⟩
                  have him : i < m := by rw [hi]; exact Nat.mod_lt _ (by omega)
                  have e26 : (b : Int) % (m : Int) = (i : Int) := by rw [hi]; simp
                  have e27 : (b : Int).tmod (m : Int) = (i : Int) := by rw [Int.tmod_eq_emod_of_nonneg (by omega)]; exact e26
                  have hmz : ¬ (m : Int) = 0 := by omega
                  obtain ⟨sb, hsb⟩ : ∃ sb, S[i]? = some sb := ⟨_, List.getElem?_eq_getElem (by rw [hQ.len]; exact him)⟩
                  have hcs : wr.cell? ⟨Bs, i, none⟩ = some (.bool sb) := hbs.cell (by rw [List.getElem?_map, hsb]; rfl)
                  have hzs := hbs.frozen i
                  have lts := hbs.lt
                  have HQ := hide (show _ ∧ _ ∧ _ ∧ _ ∧ _ ∧ _ from ⟨hQ, hQl, hbs, hrq, ho, hsb⟩)
                  have hmq : mq ≤ 64 := by rw [← hQl]; exact hQ.mq
                  clear hb hcb hi hQ hQl hbs hrq ho hsb HW
                  cases sb with
                  | false =>
                    have HN := hide (HQ.out.1.fresh HQ.out.2.2.2.2.2)
                    go_upto_region 31 with (fail)
                    obtain ⟨W2, hW2⟩ : ∃ W, W = wr.setCell ⟨Bs, i, none⟩ (.bool true) := ⟨_, rfl⟩
                    rw [show wr.setCell ⟨Bs, i, none⟩ (.bool true) = W2 from hW2.symm]
                    have o2 : Only [Bs] wr W2 := by rw [hW2]; exact (Only.refl _ _).set (p := ⟨Bs, i, none⟩) (.inl (by simp)) _
                    have b2 : Blk W2 Bs boolT ((S.set i true).map Value.bool) := by rw [hW2, List.map_set]; exact HQ.out.2.2.1.set i _
                    have r2 := off_only HQ.out.2.2.2.1 o2 (fun q hq hm => off_ne_blk HQ.out.2.2.2.1 HQ.out.2.2.1 (by decide) (List.mem_singleton.1 hm ▸ hq))
                    have al : Only [] W2 (W2.alloc (.cells #[I64 (i : Int)] intT)) := (Only.refl [] W2).alloc _
                    have H2q := hide (show _ ∧ _ ∧ _ from ⟨off_keep r2 al, (al.blk b2 (by simp)), (HQ.out.2.2.2.2.1.trans o2).trans (al.mono (S' := [Bs]) (by simp))⟩)
                    clear o2 b2 r2 al hW2 hcs hzs lts hcb2
                    obtain ⟨i0, hi0, hz0, hs0, hb0⟩ := info_parts int_info
                    go_wp2_with (at_builtin; refine wpList_append_off _ rfl (.tmp 122) (.tmp 124) 82 rfl intT i0 (.int .i64 0) 1 8 Try.underlying82 hi0 hz0 hs0 hb0 rfl (by decide) Wc.heap.size (.slice Aq mq cq) mq (Q.map fun i => I64 (i : Nat)) rfl H2q.out.1 H2q.out.2.2.size ⟨W2.heap.size, 0, none⟩ 1 1 [I64 (i : Int)] rfl rfl ?_ (by simp [Value.oneCell']) (by simp only [maxLen]; omega) (by omega) ?_)
                    · intro j u hu
                      rw [addr_add]
                      exact ((Blk.newA (c := #[I64 (i : Int)]) rfl)).cell hu
                    intro v7 w7 hr7 ho7 hv7
                    obtain ⟨A7, c7, rfl⟩ := off_shape hr7
                    have HE := hide (show QueW Bs m Wc left (.slice A7 (mq + 1) c7) (mq + 1) w7 from ⟨S.set i true, Q ++ [i], HN.out, by rw [List.length_append, HQ.out.2.1]; rfl, ho7.blk H2q.out.2.1 (fun hm => off_ne_blk H2q.out.1 H2q.out.2.1 (by decide) (mem_own.1 hm)), by rw [List.map_append]; exact hr7, H2q.out.2.2.trans' ho7 (fun q hq hl => by have := (off_ge H2q.out.1 q (mem_own.1 hq)).1; omega)⟩)
                    clear hr7 ho7 hv7
                    go_wp2
                    go_roundw
                    case rel => exact ⟨j + 1, left, mq + 1, A7, c7, by omega, by go_num, rfl, rfl, HE⟩
                    case measure => simp [Go.RowKit.intOf]; omega
                  | true =>
                    by_cases h0 : left = 0
                    · have hp : ¬ (0 : Int) < (left : Int) := by omega
                      have HE := hide (show QueW Bs m Wc left (.slice Aq mq cq) mq wr from ⟨S, Q, HQ.out.1, HQ.out.2.1, HQ.out.2.2.1, HQ.out.2.2.2.1, HQ.out.2.2.2.2.1⟩)
                      clear h0
                      go_wp2
                      go_roundw
                      case rel => exact ⟨j + 1, left, mq, Aq, cq, by omega, by go_num, rfl, rfl, HE⟩
                      case measure => simp [Go.RowKit.intOf]; omega
                    · have hp : (0 : Int) < (left : Int) := by omega
                      obtain ⟨lf, hlf⟩ : ∃ l, left = l + 1 := ⟨left - 1, by omega⟩
                      have e29 : IntKind.i64.wrap ((left : Int) - 1) = (lf : Int) := by have := HQ.out.1.cnt; simp [IntKind.wrap, IntKind.bits, IntKind.signed]; omega
                      have HN : Hid (QueI m (S.set i true) lf (Q ++ [i])) := hide (by
                        have h1 := HQ.out.1
                        rw [hlf] at h1
                        exact h1.again HQ.out.2.2.2.2.2)
                      clear h0 hlf
                      go_upto_region 31 with (fail)
                      obtain ⟨W2, hW2⟩ : ∃ W, W = wr.setCell ⟨Bs, i, none⟩ (.bool true) := ⟨_, rfl⟩
                      rw [show wr.setCell ⟨Bs, i, none⟩ (.bool true) = W2 from hW2.symm]
                      have o2 : Only [Bs] wr W2 := by rw [hW2]; exact (Only.refl _ _).set (p := ⟨Bs, i, none⟩) (.inl (by simp)) _
                      have b2 : Blk W2 Bs boolT ((S.set i true).map Value.bool) := by rw [hW2, List.map_set]; exact HQ.out.2.2.1.set i _
                      have r2 := off_only HQ.out.2.2.2.1 o2 (fun q hq hm => off_ne_blk HQ.out.2.2.2.1 HQ.out.2.2.1 (by decide) (List.mem_singleton.1 hm ▸ hq))
                      have al : Only [] W2 (W2.alloc (.cells #[I64 (i : Int)] intT)) := (Only.refl [] W2).alloc _
                      have H2q := hide (show _ ∧ _ ∧ _ from ⟨off_keep r2 al, (al.blk b2 (by simp)), (HQ.out.2.2.2.2.1.trans o2).trans (al.mono (S' := [Bs]) (by simp))⟩)
                      clear o2 b2 r2 al hW2 hcs hzs lts hcb2
                      obtain ⟨i0, hi0, hz0, hs0, hb0⟩ := info_parts int_info
                      go_wp2_with (at_builtin; refine wpList_append_off _ rfl (.tmp 122) (.tmp 124) 82 rfl intT i0 (.int .i64 0) 1 8 Try.underlying82 hi0 hz0 hs0 hb0 rfl (by decide) Wc.heap.size (.slice Aq mq cq) mq (Q.map fun i => I64 (i : Nat)) rfl H2q.out.1 H2q.out.2.2.size ⟨W2.heap.size, 0, none⟩ 1 1 [I64 (i : Int)] rfl rfl ?_ (by simp [Value.oneCell']) (by simp only [maxLen]; omega) (by omega) ?_)
                      · intro j u hu
                        rw [addr_add]
                        exact ((Blk.newA (c := #[I64 (i : Int)]) rfl)).cell hu
                      intro v7 w7 hr7 ho7 hv7
                      obtain ⟨A7, c7, rfl⟩ := off_shape hr7
                      have HE := hide (show QueW Bs m Wc lf (.slice A7 (mq + 1) c7) (mq + 1) w7 from ⟨S.set i true, Q ++ [i], HN.out, by rw [List.length_append, HQ.out.2.1]; rfl, ho7.blk H2q.out.2.1 (fun hm => off_ne_blk H2q.out.1 H2q.out.2.1 (by decide) (mem_own.1 hm)), by rw [List.map_append]; exact hr7, H2q.out.2.2.trans' ho7 (fun q hq hl => by have := (off_ge H2q.out.1 q (mem_own.1 hq)).1; omega)⟩)
                      clear hr7 ho7 hv7
                      go_wp2
                      go_roundw
                      case rel => exact ⟨j + 1, lf, mq + 1, A7, c7, by omega, by go_num, rfl, rfl, HE⟩
                      case measure => simp [Go.RowKit.intOf]; omega
                · obtain rfl : j = no := by omega
                  have HSL := hide hQ.len
                  have HT := hide (show QueV Bs m Wc S 0 (.slice Aq mq cq) mq wr from ⟨Q, hQ.rest, hQl, hbs, hrq, ho⟩)
                  clear hQ hQl hbs hrq ho HW
                  go_wp2
                  go_loopw [16, 129] (fun qv iv wr => ∃ (j mq : Nat) (Aq : Option Addr) (cq : Nat), j ≤ m ∧ iv = .int .i64 j ∧ qv = .slice Aq mq cq ∧ Hid (QueV Bs m Wc S j (.slice Aq mq cq) mq wr)) (fun _ i _ => m - (Go.RowKit.intOf i).toNat)
                  case atStart => exact ⟨0, mq, Aq, cq, Nat.zero_le _, rfl, rfl, HT⟩
                  case round =>
                    obtain ⟨i, mq, Aq, cq, hi, rfl, rfl, HW⟩ := hrel
                    obtain ⟨Q, hQ, hQl, hbs, hrq, ho⟩ := HW.out
                    rcases Nat.lt_or_ge i m with hlt | hge
                    · obtain ⟨sb, hsb⟩ : ∃ sb, S[i]? = some sb := ⟨_, List.getElem?_eq_getElem (by rw [HSL.out]; exact hlt)⟩
                      have hcs : wr.cell? ⟨Bs, i, none⟩ = some (.bool sb) := hbs.cell (by rw [List.getElem?_map, hsb]; rfl)
                      have lts := hbs.lt
                      have hmq : mq ≤ 64 := by rw [← hQl]; exact hQ.mq
                      have HQ := hide (show _ ∧ _ ∧ _ ∧ _ ∧ _ ∧ _ from ⟨hQ, hQl, hbs, hrq, ho, hsb⟩)
                      clear hQ hQl hbs hrq ho hsb HW
                      cases sb with
                      | true =>
                        have HE := hide (show QueV Bs m Wc S (i + 1) (.slice Aq mq cq) mq wr from ⟨Q, HQ.out.1.skip HQ.out.2.2.2.2.2, HQ.out.2.1, HQ.out.2.2.1, HQ.out.2.2.2.1, HQ.out.2.2.2.2.1⟩)
                        go_wp2
                        go_roundw
                        case rel => exact ⟨i + 1, mq, Aq, cq, by omega, by go_num, rfl, HE⟩
                        case measure => simp [Go.RowKit.intOf]; omega
                      | false =>
                        have al : Only [] wr (wr.alloc (.cells #[I64 (i : Int)] intT)) := (Only.refl [] wr).alloc _
                        have H2q := hide (show _ ∧ _ ∧ _ from ⟨off_keep HQ.out.2.2.2.1 al, (al.blk HQ.out.2.2.1 (by simp)), HQ.out.2.2.2.2.1.trans (al.mono (S' := [Bs]) (by simp))⟩)
                        clear al
                        obtain ⟨i0, hi0, hz0, hs0, hb0⟩ := info_parts int_info
                        go_wp2_with (at_builtin; refine wpList_append_off _ rfl (.tmp 137) (.tmp 139) 82 rfl intT i0 (.int .i64 0) 1 8 Try.underlying82 hi0 hz0 hs0 hb0 rfl (by decide) Wc.heap.size (.slice Aq mq cq) mq (Q.map fun i => I64 (i : Nat)) rfl H2q.out.1 H2q.out.2.2.size ⟨wr.heap.size, 0, none⟩ 1 1 [I64 (i : Int)] rfl rfl ?_ (by simp [Value.oneCell']) (by simp only [maxLen]; omega) (by omega) ?_)
                        · intro j u hu
                          rw [addr_add]
                          exact ((Blk.newA (c := #[I64 (i : Int)]) rfl)).cell hu
                        intro v7 w7 hr7 ho7 hv7
                        obtain ⟨A7, c7, rfl⟩ := off_shape hr7
                        have HE := hide (show QueV Bs m Wc S (i + 1) (.slice A7 (mq + 1) c7) (mq + 1) w7 from ⟨Q ++ [i], HQ.out.1.put hlt HQ.out.2.2.2.2.2, by rw [List.length_append, HQ.out.2.1]; rfl, ho7.blk H2q.out.2.1 (fun hm => off_ne_blk H2q.out.1 H2q.out.2.1 (by decide) (mem_own.1 hm)), by rw [List.map_append]; exact hr7, H2q.out.2.2.trans' ho7 (fun q hq hl => by have := (off_ge H2q.out.1 q (mem_own.1 hq)).1; omega)⟩)
                        clear hr7 ho7 hv7
                        go_wp2
                        go_roundw
                        case rel => exact ⟨i + 1, mq + 1, A7, c7, by omega, by go_num, rfl, HE⟩
                        case measure => simp [Go.RowKit.intOf]; omega
                    · obtain rfl : m = i := by omega
                      have hmq : mq ≤ 64 := by rw [← hQl]; exact hQ.mq
                      obtain ⟨Wf, hWf⟩ : ∃ W, W = wr := ⟨_, rfl⟩
                      subst hWf
                      have oW := HC.out.2.2.2.2.2.2.trans' ho (by intro q hq hl; have h1 := HC.out.2.2.2.2.1.2; simp at hq; omega)
                      have H5 := hide (show _ ∧ _ ∧ _ ∧ _ ∧ _ ∧ _ ∧ _ from ⟨off_keep HB.out.2.2.1 oW, HB.out.2.2.2.1.only oW, oW.blk HB.out.2.2.2.2.2.1 (by simp), HB.out.2.2.2.2.2.2.trans oW, hrq, hQ, hQl⟩)
                      clear oW hQ hQl hbs hrq ho HW HT
                      go_wp2_with fail
                      refine (newRz_ok _).mono ?_
                      rintro e w5 ⟨rfl, hm5, hb5, ho5, hs5⟩
                      obtain ⟨b, hb⟩ : ∃ b, b = Wf.heap.size := ⟨_, rfl⟩
                      rw [← hb] at hm5 hb5 ⊢
                      have hz5 : RzAt Wf.heap.size (b + 1) b 0 w5 0 0 [] := RzAt.fresh2 hm5 hb5 (by omega)
                      obtain ⟨r, hr⟩ : ∃ r, r = b + 1 := ⟨_, rfl⟩
                      rw [← hr] at hz5 ⊢
                      have hmk := make_bools m (by omega)
                      have Hz5 := hide (show _ ∧ _ ∧ _ from ⟨hz5, ho5, And.intro hb hr⟩)
                      clear hm5 hb5 hz5 hb hr ho5 hs5
                      go_upto_region 42 with (fail)
                      obtain ⟨W6, hW6⟩ : ∃ W, W = w5.alloc (.cells (madeCells #[.bool false] m) boolT) := ⟨_, rfl⟩
                      rw [show w5.alloc (.cells (madeCells #[.bool false] m) boolT) = W6 from hW6.symm]
                      obtain ⟨Bh, hBh⟩ : ∃ G, G = w5.heap.size := ⟨_, rfl⟩
                      rw [← hBh]
                      have HT : Hid (TogW Wf p F Q r b Bh 0 0 W6) := hide (by
                        have oc : Only [] w5 W6 := by rw [hW6]; exact (Only.refl [] w5).alloc _
                        have bs : Blk W6 Bh boolT ((List.replicate m false).map Value.bool) := by rw [hW6, hBh]; exact Blk.to (Blk.newA rfl) (made_bools m)
                        refine ⟨List.replicate m false, [], 0, 0, 0, [], by rw [HB.out.2.1]; exact SeenI.start m, TogI.start HB.out.1 HV.out HP.out.1 HP.out.2.1, rfl, fun x => by simp, fun h => ?_, bs, Hz5.out.1.only oc (by simp) (by simp) (by simp), Nat.le_refl _, ⟨Int.le_refl _, Int.le_refl _⟩, Int.le_refl _, fun hm => ?_, by rw [hBh]; exact Hz5.out.2.1.size, Hz5.out.2.1.trans oc⟩
                        · have := h 0 (by rw [HB.out.2.1]; omega)
                          cases this
                        · have h1 := Hz5.out.1.lt2 _ hm
                          omega)
                      clear hW6 hBh hmk
                      go_wp2
                      go_loopw [22, 148] (fun sv iv wr => ∃ (j seen : Nat), j ≤ mq ∧ iv = .int .i64 j ∧ sv = .int .i64 seen ∧ Hid (TogW Wf p F Q r b Bh j seen wr)) (fun _ i _ => mq - (Go.RowKit.intOf i).toNat)
                      case atStart => exact ⟨0, 0, Nat.zero_le _, rfl, rfl, HT⟩
                      case round =>
                        obtain ⟨j, seen, hj, rfl, rfl, HW⟩ := hrel
                        obtain ⟨H, Qd, M, num, clock, lz, hS, hI, hQd, hQm, hna, hbh, hz, hM, hnum, hck, hdis, hBh, ho⟩ := HW.out
                        rcases Nat.lt_or_ge j mq with hlt | hge
                        · obtain ⟨x, hx⟩ : ∃ x, Q[j]? = some x := ⟨_, List.getElem?_eq_getElem (by rw [H5.out.2.2.2.2.2.2]; exact hlt)⟩
                          have hxm : x < m := H5.out.2.2.2.2.2.1.lt x (List.mem_of_getElem? hx)
                          obtain ⟨f, hf⟩ : ∃ f, F[x]? = some f := ⟨_, List.getElem?_eq_getElem (by rw [HB.out.2.1]; exact hxm)⟩
                          obtain ⟨A, cA, hqf, hbc, hno⟩ := H5.out.2.1.2 x f hf
                          have hrq2 := off_keep H5.out.2.2.2.2.1 ho
                          have hra2 := off_keep H5.out.1 ho
                          obtain ⟨gq, oq, cq', csq, hvq, -, -, -⟩ := off_blk hrq2 (by omega)
                          injection hvq with h1 h2 h3
                          subst h1 h3
                          obtain ⟨ga2, oa, ca', csa, hva, -, -, -⟩ := off_blk hra2 (by omega)
                          injection hva with h1 h2 h3
                          subst h1 h3
                          have hcq := off_cells hrq2 rfl j (I64 (x : Nat)) (by rw [List.getElem?_map, hx]; rfl)
                          have hcell : ∀ jj u, (f.at A cA).cells[jj]? = some u → wr.cell? ⟨ga2, oa + x * 8 + jj, none⟩ = some u := fun jj u hu => by
                            have h1 := off_cells hra2 rfl (x * 8 + jj) u (flat_at (enc := Pkt.cells) (sz := 8) (fun _ => rfl) qs x _ jj u hqf hu)
                            rwa [← Nat.add_assoc] at h1
                          have y0 := hcell 0 _ rfl
                          rw [Nat.add_zero] at y0
                          have y1 := hcell 1 _ rfl
                          have y2 := hcell 2 _ rfl
                          have y3 := hcell 3 _ rfl
                          have y4 := hcell 4 _ rfl
                          have y5 := hcell 5 _ rfl
                          have y6 := hcell 6 _ rfl
                          have y7 := hcell 7 _ rfl
                          obtain ⟨t1, t2, t3, t4, t5⟩ := hI.fit hf
                          have hstep := hI.add (last := clock) (now := (j : Int)) hf (fun q hq => by
                            have h1 := (hQm q).1 hq
                            have h2 := H5.out.2.2.2.2.2.1.lt q (List.mem_of_mem_take h1)
                            rw [HB.out.2.1]; exact h2) (by omega) HP.out.1 HP.out.2.1 ⟨by omega, by omega⟩ (fun e => by rw [e] at hQd; simp at hQd; omega) hck (by omega) A cA
                          have hpf : PFit (f.at A cA) := by
                            have h1 := HP.out.2.2.1
                            show KeyFit f.src f.dst f.proto f.id
                            rw [t1, t2, t3, t4]
                            have hbd : ¬ p.bad := fun hb => by have h2 := HV.out; rw [Pkt.valid_bad hb] at h2; cases h2
                            unfold Pkt.bad at hbd
                            exact ⟨⟨h1.src0, h1.src1⟩, ⟨h1.dst0, h1.dst1⟩, by omega, by omega⟩
                          have hil := hI.len
                          have HS := hide (show _ ∧ _ ∧ _ ∧ _ ∧ _ ∧ _ ∧ _ ∧ _ ∧ _ ∧ _ ∧ _ ∧ _ ∧ _ from ⟨hS, hI, hQd, hQm, hbh, hz, hM, hnum, hck, hdis, hBh, ho, And.intro hx (And.intro hbc hno)⟩)
                          have HST := hide hstep
                          have HPF := hide hpf
                          clear hS hI hQd hQm hna hbh hz hM hnum hck hdis hBh ho hx hbc hno hqf hrq2 hra2 hcell hstep hpf hf HW HT h2 t1 t2 t3 t4
                          go_wp2_with fail
                          refine (rzAdd_ok Wf.heap.size r b M num clock (j : Int) lz (f.at A cA) _ HS.out.2.2.2.2.2.1 HPF.out (by have h1 := HS.out.2.2.2.2.2.2.2.1; omega) (by have h1 := HS.out.2.2.2.2.2.2.1; omega) (by rw [List.length_map] at hil; omega) (show f.data.length ≤ 1000000 by omega)
                            (HS.out.2.2.2.2.2.2.2.2.2.2.2.2.2.1.only HS.out.2.2.2.2.2.2.2.2.2.2.2.1).nums (fun e => by obtain ⟨h1, h2⟩ := HS.out.2.2.2.2.2.2.2.2.2.2.2.2.2.2 e; exact ⟨by show f.data.length = 0; rw [h1]; rfl, h2⟩) (fun g o s e hne hm => by
                              rcases HS.out.2.2.2.2.2.2.2.2.2.2.2.2.2.1.1 with h1 | ⟨g5, r5, h1, hb5⟩
                              · exact hne h1
                              · have h2 : A = some ⟨g, o, s⟩ := e
                                rw [h1] at h2
                                injection h2 with h2
                                injection h2 with h2
                                have h3 := hb5.lt
                                have h4 := HS.out.2.2.2.2.2.1.ge2 g hm
                                omega)).mono ?_
                          rintro e w7 ⟨A5, c5, num', lz', rfl, hn5, hu5, hm5, hR5, hnl, hnu, ho5, hf5⟩
                          obtain ⟨o9, ho9⟩ : ∃ o, o = addM clock (lz.map (·.2)) (f.at A cA) (j : Int) := ⟨_, rfl⟩
                          have hst9 := HST.out
                          rw [← ho9] at hn5 hu5 hm5 hR5 hst9 ⊢
                          obtain ⟨s1, s2, s3⟩ := hst9
                          rw [s2]
                          rw [s1] at hR5
                          have HQ := hide (show _ ∧ _ ∧ _ ∧ _ ∧ _ ∧ _ ∧ _ from ⟨hn5, hm5, hR5, And.intro hnl hnu, ho5, hf5, And.intro s3 hu5⟩)
                          clear hn5 hu5 hm5 hR5 hnl hnu ho5 hf5 s1 s2 s3 ho9 y0 y1 y2 y3 y4 y5 y6 y7 hcq
                          go_upto_region 48 with (fail)
                          obtain ⟨W8, hW8⟩ : ∃ W, W = w7.alloc (.cells (o9.q.at A5 c5).cells.toArray pktT) := ⟨_, rfl⟩
                          rw [show w7.alloc (.cells #[.int .u32 (o9.q.at A5 c5).src, .int .u32 (o9.q.at A5 c5).dst, .int .i64 (o9.q.at A5 c5).proto, .int .i64 (o9.q.at A5 c5).ttl, .int .i64 (o9.q.at A5 c5).id, .int .i64 (o9.q.at A5 c5).off, .bool (o9.q.at A5 c5).more, .slice (o9.q.at A5 c5).A (o9.q.at A5 c5).data.length (o9.q.at A5 c5).cap] pktT) = W8 from hW8.symm]
                          obtain ⟨G9, hG9⟩ : ∃ G, G = w7.heap.size := ⟨_, rfl⟩
                          rw [← hG9]
                          have o8 : Only [] w7 W8 := by rw [hW8]; exact (Only.refl [] w7).alloc _
                          have b98 : Blk W8 G9 pktT (o9.q.at A5 c5).cells := by rw [hW8, hG9]; exact Blk.newA (by simp)
                          have hdis := HS.out.2.2.2.2.2.2.2.2.2.1
                          have bh8 := o8.blk (HQ.out.2.2.2.2.1.blk HS.out.2.2.2.2.1 hdis) (by simp)
                          obtain ⟨hb, hhb⟩ : ∃ hb, H[x]? = some hb := ⟨_, List.getElem?_eq_getElem (by rw [HS.out.1.len, HB.out.2.1]; exact hxm)⟩
                          have hcs : W8.cell? ⟨Bh, x, none⟩ = some (.bool hb) := bh8.cell (by rw [List.getElem?_map, hhb]; rfl)
                          have hzs := bh8.frozen x
                          have lts := bh8.lt
                          have hsn : seen ≤ 60 := by have h1 := HS.out.1.cnt; rw [HB.out.2.1] at h1; omega
                          have hd8 : Bh ∉ r :: b :: feet lz' := fun hm => by
                            simp only [List.mem_cons] at hm
                            rcases hm with h1 | h1 | h1
                            · exact hdis (by simp [h1])
                            · exact hdis (by simp [h1])
                            · rcases HQ.out.2.2.2.2.2.1 Bh h1 with h2 | h2
                              · exact hdis (by simp [h2])
                              · have := HS.out.2.2.2.2.1.lt; omega
                          have H8 := hide (show _ ∧ _ ∧ _ ∧ _ ∧ _ from ⟨o8, b98, bh8, hhb, hd8⟩)
                          clear o8 b98 hdis bh8 hhb hd8 hW8 hG9
                          go_upto_if 170 with (fail)
                          go_cut [22] from 166 to 175 (fun s wx => SeenW F.length Bh (x :: Qd) W8 s wx)
                          case first =>
                            cases hb with
                            | true =>
                              go_wp2
                              go_meet
                              exact ⟨seen, H, rfl, HS.out.1.again H8.out.2.2.2.1, H8.out.2.2.1, Only.refl _ _⟩
                            | false =>
                              go_wp2
                              go_meet
                              exact ⟨seen + 1, H.set x true, by go_num, HS.out.1.fresh H8.out.2.2.2.1, by rw [List.map_set]; exact H8.out.2.2.1.set x _, (Only.refl _ _).set (p := ⟨Bh, x, none⟩) (.inl (by simp)) _⟩
                          case rest =>
                            obtain ⟨seen', H', rfl, hS', hbh', oc⟩ := hcut
                            clear hcs hzs lts
                            have hd8 := H8.out.2.2.2.2
                            have rzc := (HQ.out.2.2.1.only H8.out.1 (by simp) (by simp) (by simp)).only oc (fun hm => hd8 (by simp at hm; simp [hm])) (fun hm => hd8 (by simp at hm; simp [hm])) (fun q hq hm => hd8 (by simp at hm; subst hm; simp [hq]))
                            have ow : Only [] Wf wc := ((HS.out.2.2.2.2.2.2.2.2.2.2.2.1.trans' HQ.out.2.2.2.2.1 (fun q hq hl => by have := HS.out.2.2.2.2.2.1.ge2 q hq; omega)).trans H8.out.1).trans' oc (fun q hq hl => by have := HS.out.2.2.2.2.2.2.2.2.2.2.1; simp at hq; omega)
                            rcases HQ.out.2.2.2.2.2.2.1 with ⟨hall, hok, hl9, hq9⟩ | ⟨hnall, hok, hI9⟩
                            · have hsm : seen' = m := by rw [← HB.out.2.1]; exact hS'.all.2 hall
                              subst hsm
                              rw [hok]
                              have hqd : o9.q.data = p.data := by have h9 := congrArg Pkt.data (hq9 none 0); exact h9
                              have hlz : lz'.length = 0 := by
                                have h1 := HQ.out.2.1
                                rw [hl9] at h1
                                have := congrArg List.length h1
                                simpa using this
                              have b9 := oc.blk H8.out.2.1 (by simpa using H8.out.2.1.ne H8.out.2.2.1 (by decide))
                              rw [hq9 A5 c5] at b9
                              have b3 := ow.blk H5.out.2.2.1 (by simp)
                              have hn9 : NumsIn wc .u8 A5 p.data := by
                                rw [← hqd]
                                intro kk y hy
                                obtain ⟨g, o, e, hc⟩ := HQ.out.1 kk y hy
                                obtain ⟨cs, hb5⟩ := HQ.out.2.2.2.2.2.2.2 g o none e (ne_of_get hy)
                                have hb6 := H8.out.1.blk hb5 (by simp)
                                refine ⟨g, o, e, ?_⟩
                                rw [← hc]
                                exact World.cell?_of_block ((oc.block g hb6.lt (by simpa using hb6.ne H8.out.2.2.1 (by decide))).trans (H8.out.1.block g hb5.lt (by simp)))
                              have hnp : NumsIn wc .u8 p.A p.data := HP.out.2.2.2.1.only (H5.out.2.2.2.1.trans ow)
                              have HZ := hide (show _ ∧ _ ∧ _ ∧ _ ∧ _ from ⟨rzc, hn9, hnp, hlz, H5.out.2.2.2.1.trans ow⟩)
                              have HB9 := hide b9
                              obtain ⟨f0, f1, f2, f3, f4, f5, f6, f7⟩ := b9.pkt8
                              obtain ⟨g0, g1', g2', g3, g4, g5, g6, g7⟩ := b3.pkt8
                              have ltf := b9.lt
                              have ltg := b3.lt
                              clear hS' hbh' oc rzc ow b9 b3 hn9 hnp hlz hqd hall hl9 hq9
                              go_wp2
                              refine wp_region_text 3 [2] [] [0] (fun w' => w'.cell? ⟨G9, 0, none⟩ = some (.int .u32 (p.at A5 c5).src) ∧ w'.cell? ⟨G9, 1, none⟩ = some (.int .u32 (p.at A5 c5).dst) ∧ w'.cell? ⟨G9, 2, none⟩ = some (I64 (p.at A5 c5).proto) ∧ w'.cell? ⟨G9, 3, none⟩ = some (I64 (p.at A5 c5).ttl) ∧ w'.cell? ⟨G9, 4, none⟩ = some (I64 (p.at A5 c5).id) ∧ w'.cell? ⟨G9, 5, none⟩ = some (I64 (p.at A5 c5).off) ∧ w'.cell? ⟨G9, 6, none⟩ = some (.bool (p.at A5 c5).more) ∧ w'.cell? ⟨G9, 7, none⟩ = some (.slice (p.at A5 c5).A (p.at A5 c5).data.length (p.at A5 c5).cap)) (by kernel_rfl) (by kernel_rfl) ⟨f0, f1, f2, f3, f4, f5, f6, f7⟩ ?_
                              simp only [List.take_succ_cons, List.take_zero, List.drop_succ_cons, List.drop_zero]
                              repeat (first | ((refine wpText_h rfl rfl ?_; apply Exists.intro; refine ⟨?_, ?_⟩; next => (go_simp; (try (go_bits; go_simp)); (first | done | with_reducible rfl | (rw [if_neg (by omega)]; (try (go_bits; go_simp)); (first | done | with_reducible rfl)) | (rw [if_pos (by omega)]; (try (go_bits; go_simp)); (first | done | with_reducible rfl))))); (try simp only [Act.put, List.setIfInBounds_toArray, List.set_cons_zero, List.set_cons_succ])) | ((refine wpText_p rfl rfl ?_; apply Exists.intro; refine ⟨?_, ?_⟩; next => (intro w'; go_simp; (try (go_bits; go_simp)); (first | done | with_reducible rfl | (rw [if_neg (by omega)]; (try (go_bits; go_simp)); (first | done | with_reducible rfl)) | (rw [if_pos (by omega)]; (try (go_bits; go_simp)); (first | done | with_reducible rfl))))); (try simp only [Act.put, List.setIfInBounds_toArray, List.set_cons_zero, List.set_cons_succ])) | ((refine wpText_y rfl rfl ?_; apply Exists.intro; refine ⟨?_, ?_⟩; next => (intro w' hS; (first | obtain ⟨_, rfl⟩ := hS | skip); go_simp; (try (go_bits; go_simp)); (first | done | with_reducible rfl | (rw [if_neg (by omega)]; (try (go_bits; go_simp)); (first | done | with_reducible rfl)) | (rw [if_pos (by omega)]; (try (go_bits; go_simp)); (first | done | with_reducible rfl))))); (try simp only [Act.put, List.setIfInBounds_toArray, List.set_cons_zero, List.set_cons_succ])) | (refine wpText_skip (by first | exact .inl rfl | exact .inr (.inl rfl) | exact .inr (.inr rfl)) rfl ?_; (try simp only [Act.put, List.setIfInBounds_toArray, List.set_cons_zero, List.set_cons_succ])))
                              refine wpText_e rfl rfl (fun K hK => ?_)
                              go_wp2_with fail
                              refine (ref_ok p _).mono ?_
                              rintro e w9 ⟨rfl, ho9⟩
                              have o9w : Only [] wc w9 := (Only.refl [] wc).drew.trans ho9
                              have b99 := o9w.blk HB9.out (by simp)
                              obtain ⟨f0, f1, f2, f3, f4, f5, f6, f7⟩ := b99.pkt8
                              have HW9 := hide o9w
                              refine hK _ _ ⟨f0, f1, f2, f3, f4, f5, f6, f7⟩ ?_
                              clear hK K ho9 o9w b99
                              repeat (first | ((refine wpText_h rfl rfl ?_; apply Exists.intro; refine ⟨?_, ?_⟩; next => (go_simp; (try (go_bits; go_simp)); (first | done | with_reducible rfl | (rw [if_neg (by omega)]; (try (go_bits; go_simp)); (first | done | with_reducible rfl)) | (rw [if_pos (by omega)]; (try (go_bits; go_simp)); (first | done | with_reducible rfl))))); (try simp only [Act.put, List.setIfInBounds_toArray, List.set_cons_zero, List.set_cons_succ])) | ((refine wpText_p rfl rfl ?_; apply Exists.intro; refine ⟨?_, ?_⟩; next => (intro w'; go_simp; (try (go_bits; go_simp)); (first | done | with_reducible rfl | (rw [if_neg (by omega)]; (try (go_bits; go_simp)); (first | done | with_reducible rfl)) | (rw [if_pos (by omega)]; (try (go_bits; go_simp)); (first | done | with_reducible rfl))))); (try simp only [Act.put, List.setIfInBounds_toArray, List.set_cons_zero, List.set_cons_succ])) | ((refine wpText_y rfl rfl ?_; apply Exists.intro; refine ⟨?_, ?_⟩; next => (intro w' hS; (first | obtain ⟨_, rfl⟩ := hS | skip); go_simp; (try (go_bits; go_simp)); (first | done | with_reducible rfl | (rw [if_neg (by omega)]; (try (go_bits; go_simp)); (first | done | with_reducible rfl)) | (rw [if_pos (by omega)]; (try (go_bits; go_simp)); (first | done | with_reducible rfl))))); (try simp only [Act.put, List.setIfInBounds_toArray, List.set_cons_zero, List.set_cons_succ])) | (refine wpText_skip (by first | exact .inl rfl | exact .inr (.inl rfl) | exact .inr (.inr rfl)) rfl ?_; (try simp only [Act.put, List.setIfInBounds_toArray, List.set_cons_zero, List.set_cons_succ])))
                              refine wpText_nil ?_
                              go_wp2_with fail
                              refine (same_true (p.at A5 c5) p.A p.cap _ (show p.data.length ≤ maxLen from HPL.out) (HZ.out.2.1.only HW9.out) (HZ.out.2.2.1.only HW9.out)).mono ?_
                              rintro e w10 ⟨rfl, ho10⟩
                              have HZ10 := hide (show _ ∧ _ from ⟨HZ.out.1.only (HW9.out.trans ho10) (by simp) (by simp) (by simp), HZ.out.2.2.2.2.trans (HW9.out.trans ho10)⟩)
                              clear ho10
                              go_wp2_with fail
                              refine (collections_ok r b (M + 1) lz'.length (fL lz') num' (j : Int) _ HZ10.out.1.me HZ10.out.1.mp).mono ?_
                              rintro e w11 ⟨rfl, rfl⟩
                              rw [HZ.out.2.2.2.1]
                              go_wp2_with fail
                              refine (awake_ok _).mono ?_
                              rintro e w12 ⟨rfl, ho12⟩
                              have HZ12 := hide (HZ10.out.2.trans ho12)
                              clear ho12
                              go_wp2
                              refine NoX.normal ?_
                              go_wp2
                              go_ret
                              exact ⟨rfl, HZ12.out⟩
                            · have hsm : seen' ≠ m := fun e => hnall (hS'.all.1 (by rw [HB.out.2.1]; exact e))
                              have d22 : ((seen' : Int) == (m : Int)) = false := by simp; omega
                              rw [hok]
                              have hnumx := HQ.out.2.2.2.1
                              have HE : Hid (TogW Wf p F Q r b Bh (j + 1) seen' wc) := hide (by
                                have h1 := HS.out.2.2.2.2.2.2.1
                                have h2 := HS.out.2.2.2.2.2.2.2.1
                                refine ⟨H', x :: Qd, M + 1, num', (j : Int), lz', hS', by rw [HQ.out.2.1]; exact hI9, by rw [List.length_cons, HS.out.2.2.1], fun q => ?_, hnall, hbh', rzc, by omega, ⟨by omega, by push_cast; omega⟩, by push_cast; omega, hd8, HS.out.2.2.2.2.2.2.2.2.2.2.1, ow⟩
                                rw [List.take_add_one, HS.out.2.2.2.2.2.2.2.2.2.2.2.2.1, List.mem_cons, List.mem_append, HS.out.2.2.2.1]
                                simp only [Option.toList_some, List.mem_singleton]
                                exact ⟨fun h => h.elim .inr .inl, fun h => h.elim .inr .inl⟩)
                              clear hS' hbh' oc rzc ow hnall hI9 hsm hnumx
                              go_wp2
                              go_roundw
                              case rel => exact ⟨j + 1, seen', by omega, by go_num, rfl, HE⟩
                              case measure => simp [Go.RowKit.intOf]; omega
                        · exfalso
                          have hall : ∀ q, q < F.length → q ∈ Qd := fun q hq => by
                            rw [hQm]
                            have h1 := H5.out.2.2.2.2.2.1.mem q (.inr (by rw [← HB.out.2.1]; exact hq)) (by rw [← HB.out.2.1]; exact hq)
                            rw [List.take_of_length_le (by rw [H5.out.2.2.2.2.2.2]; exact hge)]
                            exact h1
                          exact hna hall
  · rw [show p.valid = 34 by
      by_cases hb : p.bad
      · exact Pkt.valid_bad hb
      · exact absurd (Pkt.valid_good hb) hv]
    clear hv
    go_wp2_with fail
    refine (awake_ok _).mono ?_
    rintro e w9 ⟨rfl, ho⟩
    have HZ := hide (H2.out.1.trans ho)
    clear ho
    go_wp2
    go_ret
    exact ⟨rfl, HZ.out⟩

end Go.Proofs.Ytlnejlhdkmneeaa
