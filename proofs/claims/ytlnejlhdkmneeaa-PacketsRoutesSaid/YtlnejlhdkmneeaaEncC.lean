/- The reference's Encode. -/
import Derived.Test.YtlnejlhdkmneeaaEncB
namespace Go.Proofs.Ytlnejlhdkmneeaa
open Go.RowKit

abbrev rpT : TypeId := 45
/-- The header's first bytes. -/
def hd4 (p : Pkt) : List Nat := [4, p.proto.toNat, p.ttl.toNat, if p.more then 1 else 0]
def hd6 (p : Pkt) : List Nat := hd4 p ++ putB p.data.length 2 2
def hd12 (p : Pkt) : List Nat := hd6 p ++ putB p.id.toNat 2 2 ++ putB p.off.toNat 2 2 ++ [0, 0]
def hd20 (p : Pkt) : List Nat := hd12 p ++ putB p.src.toNat 4 4 ++ putB p.dst.toNat 4 4
theorem hd20_eq (p : Pkt) (hf : p.Fit) (hl : p.data.length ≤ 65535) (h1 : 0 ≤ p.id) (h2 : p.id ≤ 65535) (h3 : 0 ≤ p.off) (h4 : p.off ≤ 65528) : hd20 p = (List.range 20).map (hd p 0) := by
  have g1 := hf.src1
  have g2 := hf.dst1
  rw [show List.range 20 = [0, 1, 2, 3, 4, 5, 6, 7, 8, 9, 10, 11, 12, 13, 14, 15, 16, 17, 18, 19] from rfl]
  simp only [hd20, hd12, hd6, hd4, putB, List.map_cons, List.map_nil, hd, show List.range 2 = [0, 1] from rfl, show List.range 4 = [0, 1, 2, 3] from rfl, List.cons_append, List.nil_append, List.cons.injEq, true_and, and_true]
  simp only [Nat.reduceSub, Nat.reduceMul, Nat.reducePow]
  omega
def moI (p : Pkt) : Int := if p.more then 1 else 0
theorem hd4_cells (p : Pkt) (b1 : 0 ≤ p.proto) (b2 : p.proto ≤ 255) (b3 : 0 ≤ p.ttl) (b4 : p.ttl ≤ 255) : (#[.int .u8 4, .int .u8 p.proto, .int .u8 p.ttl, .int .u8 (moI p)] : Array Value).toList = bcells (hd4 p) := by
  cases hm : p.more <;> simp [bcells, hd4, moI, hm] <;> omega
def REncS (p : Pkt) (w : World) (e : Ending) (w' : World) : Prop := ∃ A c, e = .returned (.tuple #[.slice A p.bytes.length c, I64 0]) ∧ NumsIn w' .u8 A p.bytes ∧ Only [] w w'
theorem wpList_app {ops : Array Oper} {rest : List Oper} {o : Oper} {a : Act} {w : World} {Q : Exit → Act → World → Prop} (hgd : o.guard = none) (s x : Operand) (ho : o.op = .call { callee := .builtin .append, args := #[s, x], argTypes := #[28, 28] })
    (w0 : World) (l1 l2 l : List (Value × List Nat)) (v : Value) (L : List Nat) (hl : l = l1 ++ (v, L) :: l2) (hR : RowsOk w0 w l) (hs : a.eval s = v) (A : Addr) (m c : Nat) (X : List Nat) (hx : a.eval x = .slice (some A) m c) (hm : X.length = m) (hX : NumsIn w .u8 (some A) X)
    (hsz : L.length + m ≤ 1000000) (h : ∀ v' w', RowsOk w0 w' (l1 ++ (v', L ++ X) :: l2) → wpList Try.prog ops Q rest (a.put o.dst v') w') : wpList Try.prog ops Q (o :: rest) a w :=
  wpList_plain hgd fun _ hK => wp_app s x ho w0 l1 l2 l v L hl hR hs A m c X hx hm hX hsz fun v' w' hr => hK _ _ (h v' w' hr)
/-- The sum is laid into the header. -/
theorem rset (p : Pkt) (w1 w3 : World) (g0 c0 : Nat) (ho : Only [] w1 w3) (h : w3.ownsRow w1.heap.size 5 1 (.slice (some ⟨g0, 0, none⟩) 20 c0) 20 (bcells ((List.range 20).map (hd p 0)))) :
    Only [] w1 (((w3.setCell ⟨g0, 10, none⟩ (.int .u8 ((p.sum : Int) / 256 % 256))).setCell ⟨g0, 11, none⟩ (.int .u8 ((p.sum : Int) % 256))).drew) ∧
    (((w3.setCell ⟨g0, 10, none⟩ (.int .u8 ((p.sum : Int) / 256 % 256))).setCell ⟨g0, 11, none⟩ (.int .u8 ((p.sum : Int) % 256))).drew).ownsRow w1.heap.size 5 1 (.slice (some ⟨g0, 0, none⟩) 20 c0) 20 (bcells ((List.range 20).map (hd p p.sum))) := by
  have hg : w1.heap.size ≤ g0 := (h.lt g0 rfl).1
  refine ⟨((ho.set (.inr hg) _).set (.inr hg) _).drew, ?_⟩
  have h1 := own_nil ((World.ownsRow.stored (World.ownsRow.stored h 10 (.int .u8 ((p.sum : Int) / 256 % 256))).1 11 (.int .u8 ((p.sum : Int) % 256))).1) ((Only.refl [] _).drew)
  have e : ((bcells ((List.range 20).map (hd p 0))).set 10 (.int .u8 ((p.sum : Int) / 256 % 256))).set 11 (.int .u8 ((p.sum : Int) % 256)) = bcells ((List.range 20).map (hd p p.sum)) := by
    have := p.sum_le
    rw [show List.range 20 = [0, 1, 2, 3, 4, 5, 6, 7, 8, 9, 10, 11, 12, 13, 14, 15, 16, 17, 18, 19] from rfl]
    simp only [bcells, List.map_cons, List.map_nil, hd, List.set_cons_succ, List.set_cons_zero, List.cons.injEq, Value.int.injEq, true_and, and_true]
    omega
  rw [← e]; exact h1
def HeadS (w1 : World) (L : List Nat) (s : Value) (wx : World) : Prop := wx.ownsRow w1.heap.size 5 1 s L.length (bcells L) ∧ Only [] w1 wx
theorem HeadS.rows {w1 wx : World} {L : List Nat} {s : Value} (h : HeadS w1 L s wx) : RowsOk w1 wx [(s, L)] := ⟨h.2, by simpa using h.1, by simp⟩

set_option maxRecDepth 100000 in
set_option maxHeartbeats 32000000 in
theorem refEncode_good (p : Pkt) (w : World) (hf : p.Fit) (hb : ¬ p.bad) (hl : p.data.length ≤ 65535) (hA : NumsIn w .u8 p.A p.data) (hA0 : p.A = none → p.data.length = 0 ∧ p.cap = 0) :
    Calls Try.prog 26 #[p.V] w fun e w' => REncS p w e w' := by
  have hO : Only [] w (w.alloc (.cells #[.int .u32 p.src, .int .u32 p.dst, I64 p.proto, I64 p.ttl, I64 p.id, I64 p.off, .bool p.more, .slice p.A p.data.length p.cap] 45)) := (Only.refl [] w).alloc _
  have hB : Blk (w.alloc (.cells #[.int .u32 p.src, .int .u32 p.dst, I64 p.proto, I64 p.ttl, I64 p.id, I64 p.off, .bool p.more, .slice p.A p.data.length p.cap] 45)) w.heap.size 45 p.cells := Blk.newA rfl
  show Calls Try.prog 26 #[.agg #[.int .u32 p.src, .int .u32 p.dst, I64 p.proto, I64 p.ttl, I64 p.id, I64 p.off, .bool p.more, .slice p.A p.data.length p.cap]] w _
  have HA := hide hA
  have HO := hide (And.intro hO hB)
  have H0 := hide hA0
  have HBD := hide hb
  have b1 : 0 ≤ p.proto ∧ p.proto ≤ 255 ∧ 0 ≤ p.ttl ∧ p.ttl ≤ 255 ∧ 0 ≤ p.id ∧ p.id ≤ 65535 ∧ 0 ≤ p.off ∧ p.off ≤ 65528 := by unfold Pkt.bad at hb; omega
  obtain ⟨b1, b2, b3, b4, b5, b6, b7, b8⟩ := b1
  have b9 := hf.src0
  have b10 := hf.src1
  have b11 := hf.dst0
  have b12 := hf.dst1
  have HF := hide hf
  clear hO hB hA hA0 hb hf
  go_enter Try.func26, Try.ntmps26
  go_wp2_with fail
  refine (refValid_ok p _ (by unfold maxLen; omega)).mono ?_
  rintro e w1 ⟨rfl, ho⟩
  rw [Pkt.valid_good HBD.out]
  have hq := ho.blk HO.out.2 (by simp)
  have HQ := hide (show _ ∧ _ from ⟨Only.trans HO.out.1 ho, hq⟩)
  obtain ⟨q, hqq⟩ : ∃ q, q = w.heap.size := ⟨_, rfl⟩
  rw [← hqq] at HQ hq
  rw [← hqq]
  clear hqq
  have HB := hide (fun (W : World) (hW : Only [] w1 W) => hW.blk HQ.out.2 (by simp))
  have e6 := hq.cell (i := 6) rfl
  have ltq := hq.lt
  clear ho hq HO
  go_upto_if 14 with (fail)
  go_cut [5] (fun s5 wx => s5 = .int .u8 (moI p) ∧ w1 = wx)
  case first =>
    go_wp2_with fail
    all_goals
      go_meet
      exact ⟨by simp [moI, *], rfl⟩
  case rest =>
    obtain ⟨rfl, rfl⟩ := hcut
    clear e6
    go_wp2_with fail
    go_cut [6] (fun s wx => HeadS w1 (hd6 p) s wx)
    case first =>
      have HS := hide (show ∀ W : World, Only [] w1 W → (fun w' => w'.cell? ⟨q, 2, none⟩ = some (I64 p.proto) ∧ w'.cell? ⟨q, 3, none⟩ = some (I64 p.ttl) ∧ w'.cell? ⟨q, 7, none⟩ = some (.slice p.A p.data.length p.cap)) W from fun W hW => ⟨(HB.out W hW).cell (i := 2) rfl, (HB.out W hW).cell (i := 3) rfl, (HB.out W hW).cell (i := 7) rfl⟩)
      have HR0 := hide (RowsOk.only (RowsOk.nil w1) (Only.refl [] w1).drew)
      refine wp_region_sch 15 [7, 12, 13] (fun w' => w'.cell? ⟨q, 2, none⟩ = some (I64 p.proto) ∧ w'.cell? ⟨q, 3, none⟩ = some (I64 p.ttl) ∧ w'.cell? ⟨q, 7, none⟩ = some (.slice p.A p.data.length p.cap)) (by kernel_rfl) (by kernel_rfl) (HS.out _ HR0.out.1) ?_
      repeat (first | ((refine sch_y rfl rfl rfl rfl ?_; apply Exists.intro; refine ⟨?_, ?_⟩; next => (intro w' hS; (first | obtain ⟨_, rfl⟩ := hS | skip); go_simp; (try (go_bits; go_simp)); (first | done | with_reducible rfl | (rw [if_neg (by omega)]; (try (go_bits; go_simp)); (first | done | with_reducible rfl)) | (rw [if_pos (by omega)]; (try (go_bits; go_simp)); (first | done | with_reducible rfl))))); (try simp only [Act.put, List.setIfInBounds_toArray, List.set_cons_zero, List.set_cons_succ])) | ((refine sch_skip rfl rfl rfl rfl ?_); (try simp only [Act.put, List.setIfInBounds_toArray, List.set_cons_zero, List.set_cons_succ])))
      refine sch_e2 rfl rfl rfl rfl rfl rfl ?_ ?_
      · refine ⟨rfl, fun K hK => ?_⟩
        go_wp2
        have HR1 := hide (HR0.out.made #[.int .u8 4, .int .u8 p.proto, .int .u8 p.ttl, .int .u8 (moI p)] (hd4 p) 4 rfl (hd4_cells p b1 b2 b3 b4) (by decide))
        refine hK _ _ (HS.out _ HR1.out.1) ?_
        clear hK K
        try simp only [Act.put, List.setIfInBounds_toArray, List.set_cons_zero, List.set_cons_succ]
        repeat (first | ((refine sch_y rfl rfl rfl rfl ?_; apply Exists.intro; refine ⟨?_, ?_⟩; next => (intro w' hS; (first | obtain ⟨_, rfl⟩ := hS | skip); go_simp; (try (go_bits; go_simp)); (first | done | with_reducible rfl | (rw [if_neg (by omega)]; (try (go_bits; go_simp)); (first | done | with_reducible rfl)) | (rw [if_pos (by omega)]; (try (go_bits; go_simp)); (first | done | with_reducible rfl))))); (try simp only [Act.put, List.setIfInBounds_toArray, List.set_cons_zero, List.set_cons_succ])) | ((refine sch_skip rfl rfl rfl rfl ?_); (try simp only [Act.put, List.setIfInBounds_toArray, List.set_cons_zero, List.set_cons_succ])))
        refine sch_e1 rfl rfl rfl rfl ?_
        · refine ⟨rfl, fun K hK => ?_⟩
          go_wp2_with fail
          refine (rputI_ok (p.data.length : Int) 2 _ (by omega) (by omega) (by omega)).mono ?_
          intro e y2 h
          obtain ⟨g2, c2, rfl, hr⟩ := h.rows HR1.out (by decide)
          have HR2 := hide hr
          clear hr h
          refine hK _ _ (HS.out _ HR2.out.1) ?_
          clear hK K
          try simp only [Act.put, List.setIfInBounds_toArray, List.set_cons_zero, List.set_cons_succ]
          repeat (first | ((refine sch_y rfl rfl rfl rfl ?_; apply Exists.intro; refine ⟨?_, ?_⟩; next => (intro w' hS; (first | obtain ⟨_, rfl⟩ := hS | skip); go_simp; (try (go_bits; go_simp)); (first | done | with_reducible rfl | (rw [if_neg (by omega)]; (try (go_bits; go_simp)); (first | done | with_reducible rfl)) | (rw [if_pos (by omega)]; (try (go_bits; go_simp)); (first | done | with_reducible rfl))))); (try simp only [Act.put, List.setIfInBounds_toArray, List.set_cons_zero, List.set_cons_succ])) | ((refine sch_skip rfl rfl rfl rfl ?_); (try simp only [Act.put, List.setIfInBounds_toArray, List.set_cons_zero, List.set_cons_succ])))
          refine sch_e1 rfl rfl rfl rfl ?_
          · refine ⟨rfl, fun K hK => ?_⟩
            refine wp_app (.tmp 22) (.tmp 27) rfl w1 [(.slice (some ⟨g2, 0, none⟩) 2 c2, putB ((p.data.length : Int)).toNat 2 2)] [] _ (.slice (some ⟨w1.drew.heap.size, 0, none⟩) 4 4) ((hd4 p)) rfl HR2.out rfl _ _ _ (putB ((p.data.length : Int)).toNat 2 2) rfl rfl (nums_of_own (T := 5) (HR2.out.get 0 rfl)) (by simp [putB, hd20, hd12, hd6, hd4]) ?_
            intro v3 y3 hr
            have HR3 := hide hr
            clear hr
            refine hK _ _ (HS.out _ HR3.out.1) ?_
            clear hK K
            try simp only [Act.put, List.setIfInBounds_toArray, List.set_cons_zero, List.set_cons_succ]
            repeat (first | ((refine sch_y rfl rfl rfl rfl ?_; apply Exists.intro; refine ⟨?_, ?_⟩; next => (intro w' hS; (first | obtain ⟨_, rfl⟩ := hS | skip); go_simp; (try (go_bits; go_simp)); (first | done | with_reducible rfl | (rw [if_neg (by omega)]; (try (go_bits; go_simp)); (first | done | with_reducible rfl)) | (rw [if_pos (by omega)]; (try (go_bits; go_simp)); (first | done | with_reducible rfl))))); (try simp only [Act.put, List.setIfInBounds_toArray, List.set_cons_zero, List.set_cons_succ])) | ((refine sch_skip rfl rfl rfl rfl ?_); (try simp only [Act.put, List.setIfInBounds_toArray, List.set_cons_zero, List.set_cons_succ])))
            refine sch_nil ?_
            go_wp2_with fail
            go_meet
            exact ⟨HR3.out.get 1 rfl, HR3.out.1⟩
      · refine ⟨rfl, fun K hK => ?_⟩
        go_wp2_with fail
        refine (rputI_ok (p.data.length : Int) 2 _ (by omega) (by omega) (by omega)).mono ?_
        intro e y4 h
        obtain ⟨g4, c4, rfl, hr⟩ := h.rows HR0.out (by decide)
        have HR4 := hide hr
        clear hr h
        refine hK _ _ (HS.out _ HR4.out.1) ?_
        clear hK K
        try simp only [Act.put, List.setIfInBounds_toArray, List.set_cons_zero, List.set_cons_succ]
        repeat (first | ((refine sch_y rfl rfl rfl rfl ?_; apply Exists.intro; refine ⟨?_, ?_⟩; next => (intro w' hS; (first | obtain ⟨_, rfl⟩ := hS | skip); go_simp; (try (go_bits; go_simp)); (first | done | with_reducible rfl | (rw [if_neg (by omega)]; (try (go_bits; go_simp)); (first | done | with_reducible rfl)) | (rw [if_pos (by omega)]; (try (go_bits; go_simp)); (first | done | with_reducible rfl))))); (try simp only [Act.put, List.setIfInBounds_toArray, List.set_cons_zero, List.set_cons_succ])) | ((refine sch_skip rfl rfl rfl rfl ?_); (try simp only [Act.put, List.setIfInBounds_toArray, List.set_cons_zero, List.set_cons_succ])))
        refine sch_e1 rfl rfl rfl rfl ?_
        · refine ⟨rfl, fun K hK => ?_⟩
          go_wp2
          have HR5 := hide (HR4.out.made #[.int .u8 4, .int .u8 p.proto, .int .u8 p.ttl, .int .u8 (moI p)] (hd4 p) 4 rfl (hd4_cells p b1 b2 b3 b4) (by decide))
          refine hK _ _ (HS.out _ HR5.out.1) ?_
          clear hK K
          try simp only [Act.put, List.setIfInBounds_toArray, List.set_cons_zero, List.set_cons_succ]
          repeat (first | ((refine sch_y rfl rfl rfl rfl ?_; apply Exists.intro; refine ⟨?_, ?_⟩; next => (intro w' hS; (first | obtain ⟨_, rfl⟩ := hS | skip); go_simp; (try (go_bits; go_simp)); (first | done | with_reducible rfl | (rw [if_neg (by omega)]; (try (go_bits; go_simp)); (first | done | with_reducible rfl)) | (rw [if_pos (by omega)]; (try (go_bits; go_simp)); (first | done | with_reducible rfl))))); (try simp only [Act.put, List.setIfInBounds_toArray, List.set_cons_zero, List.set_cons_succ])) | ((refine sch_skip rfl rfl rfl rfl ?_); (try simp only [Act.put, List.setIfInBounds_toArray, List.set_cons_zero, List.set_cons_succ])))
          refine sch_e1 rfl rfl rfl rfl ?_
          · refine ⟨rfl, fun K hK => ?_⟩
            refine wp_app (.tmp 22) (.tmp 27) rfl w1 [] [(.slice (some ⟨g4, 0, none⟩) 2 c4, putB ((p.data.length : Int)).toNat 2 2)] _ (.slice (some ⟨y4.heap.size, 0, none⟩) 4 4) ((hd4 p)) rfl HR5.out rfl _ _ _ (putB ((p.data.length : Int)).toNat 2 2) rfl rfl (nums_of_own (T := 5) (HR5.out.get 1 rfl)) (by simp [putB, hd20, hd12, hd6, hd4]) ?_
            intro v6 y6 hr
            have HR6 := hide hr
            clear hr
            refine hK _ _ (HS.out _ HR6.out.1) ?_
            clear hK K
            try simp only [Act.put, List.setIfInBounds_toArray, List.set_cons_zero, List.set_cons_succ]
            repeat (first | ((refine sch_y rfl rfl rfl rfl ?_; apply Exists.intro; refine ⟨?_, ?_⟩; next => (intro w' hS; (first | obtain ⟨_, rfl⟩ := hS | skip); go_simp; (try (go_bits; go_simp)); (first | done | with_reducible rfl | (rw [if_neg (by omega)]; (try (go_bits; go_simp)); (first | done | with_reducible rfl)) | (rw [if_pos (by omega)]; (try (go_bits; go_simp)); (first | done | with_reducible rfl))))); (try simp only [Act.put, List.setIfInBounds_toArray, List.set_cons_zero, List.set_cons_succ])) | ((refine sch_skip rfl rfl rfl rfl ?_); (try simp only [Act.put, List.setIfInBounds_toArray, List.set_cons_zero, List.set_cons_succ])))
            refine sch_nil ?_
            go_wp2_with fail
            go_meet
            exact ⟨HR6.out.get 0 rfl, HR6.out.1⟩
    case rest =>
      obtain ⟨g0, c0, rfl⟩ := own_some hcut.1 (by simp [hd20, hd12, hd6, hd4, putB])
      have HH := hide hcut
      clear hcut
      go_wp2_with fail
      go_cut [6] (fun s wx => HeadS w1 (hd12 p) s wx)
      case first =>
        have HS := hide (show ∀ W : World, Only [] w1 W → (fun w' => w'.cell? ⟨q, 4, none⟩ = some (I64 p.id) ∧ w'.cell? ⟨q, 5, none⟩ = some (I64 p.off)) W from fun W hW => ⟨(HB.out W hW).cell (i := 4) rfl, (HB.out W hW).cell (i := 5) rfl⟩)
        have HR0 := hide ((HeadS.rows HH.out).only (Only.refl [] wc).drew)
        refine wp_region_sch 14 [4, 5, 9, 10, 11, 12] (fun w' => w'.cell? ⟨q, 4, none⟩ = some (I64 p.id) ∧ w'.cell? ⟨q, 5, none⟩ = some (I64 p.off)) (by kernel_rfl) (by kernel_rfl) (HS.out _ HR0.out.1) ?_
        repeat (first | ((refine sch_y rfl rfl rfl rfl ?_; apply Exists.intro; refine ⟨?_, ?_⟩; next => (intro w' hS; (first | obtain ⟨_, rfl⟩ := hS | skip); go_simp; (try (go_bits; go_simp)); (first | done | with_reducible rfl | (rw [if_neg (by omega)]; (try (go_bits; go_simp)); (first | done | with_reducible rfl)) | (rw [if_pos (by omega)]; (try (go_bits; go_simp)); (first | done | with_reducible rfl))))); (try simp only [Act.put, List.setIfInBounds_toArray, List.set_cons_zero, List.set_cons_succ])) | ((refine sch_skip rfl rfl rfl rfl ?_); (try simp only [Act.put, List.setIfInBounds_toArray, List.set_cons_zero, List.set_cons_succ])))
        refine sch_e2 rfl rfl rfl rfl rfl rfl ?_ ?_
        · refine ⟨rfl, fun K hK => ?_⟩
          go_wp2_with fail
          refine (rputI_ok p.id 2 _ (by omega) (by omega) (by omega)).mono ?_
          intro e y7 h
          obtain ⟨g7, c7, rfl, hr⟩ := h.rows HR0.out (by decide)
          have HR7 := hide hr
          clear hr h
          refine hK _ _ (HS.out _ HR7.out.1) ?_
          clear hK K
          try simp only [Act.put, List.setIfInBounds_toArray, List.set_cons_zero, List.set_cons_succ]
          repeat (first | ((refine sch_y rfl rfl rfl rfl ?_; apply Exists.intro; refine ⟨?_, ?_⟩; next => (intro w' hS; (first | obtain ⟨_, rfl⟩ := hS | skip); go_simp; (try (go_bits; go_simp)); (first | done | with_reducible rfl | (rw [if_neg (by omega)]; (try (go_bits; go_simp)); (first | done | with_reducible rfl)) | (rw [if_pos (by omega)]; (try (go_bits; go_simp)); (first | done | with_reducible rfl))))); (try simp only [Act.put, List.setIfInBounds_toArray, List.set_cons_zero, List.set_cons_succ])) | ((refine sch_skip rfl rfl rfl rfl ?_); (try simp only [Act.put, List.setIfInBounds_toArray, List.set_cons_zero, List.set_cons_succ])))
          refine sch_e2 rfl rfl rfl rfl rfl rfl ?_ ?_
          · refine ⟨rfl, fun K hK => ?_⟩
            refine wp_app (.tmp 29) (.tmp 33) rfl w1 [(.slice (some ⟨g7, 0, none⟩) 2 c7, putB (p.id).toNat 2 2)] [] _ (.slice (some ⟨g0, 0, none⟩) (hd6 p).length c0) (hd6 p) rfl HR7.out rfl _ _ _ (putB (p.id).toNat 2 2) rfl rfl (nums_of_own (T := 5) (HR7.out.get 0 rfl)) (by simp [putB, hd20, hd12, hd6, hd4]) ?_
            intro v8 y8 hr
            have HR8 := hide hr
            clear hr
            refine hK _ _ (HS.out _ HR8.out.1) ?_
            clear hK K
            try simp only [Act.put, List.setIfInBounds_toArray, List.set_cons_zero, List.set_cons_succ]
            repeat (first | ((refine sch_y rfl rfl rfl rfl ?_; apply Exists.intro; refine ⟨?_, ?_⟩; next => (intro w' hS; (first | obtain ⟨_, rfl⟩ := hS | skip); go_simp; (try (go_bits; go_simp)); (first | done | with_reducible rfl | (rw [if_neg (by omega)]; (try (go_bits; go_simp)); (first | done | with_reducible rfl)) | (rw [if_pos (by omega)]; (try (go_bits; go_simp)); (first | done | with_reducible rfl))))); (try simp only [Act.put, List.setIfInBounds_toArray, List.set_cons_zero, List.set_cons_succ])) | ((refine sch_skip rfl rfl rfl rfl ?_); (try simp only [Act.put, List.setIfInBounds_toArray, List.set_cons_zero, List.set_cons_succ])))
            refine sch_e2 rfl rfl rfl rfl rfl rfl ?_ ?_
            · refine ⟨rfl, fun K hK => ?_⟩
              go_wp2_with fail
              refine (rputI_ok p.off 2 _ (by omega) (by omega) (by omega)).mono ?_
              intro e y9 h
              obtain ⟨g9, c9, rfl, hr⟩ := h.rows HR8.out (by decide)
              have HR9 := hide hr
              clear hr h
              refine hK _ _ (HS.out _ HR9.out.1) ?_
              clear hK K
              try simp only [Act.put, List.setIfInBounds_toArray, List.set_cons_zero, List.set_cons_succ]
              repeat (first | ((refine sch_y rfl rfl rfl rfl ?_; apply Exists.intro; refine ⟨?_, ?_⟩; next => (intro w' hS; (first | obtain ⟨_, rfl⟩ := hS | skip); go_simp; (try (go_bits; go_simp)); (first | done | with_reducible rfl | (rw [if_neg (by omega)]; (try (go_bits; go_simp)); (first | done | with_reducible rfl)) | (rw [if_pos (by omega)]; (try (go_bits; go_simp)); (first | done | with_reducible rfl))))); (try simp only [Act.put, List.setIfInBounds_toArray, List.set_cons_zero, List.set_cons_succ])) | ((refine sch_skip rfl rfl rfl rfl ?_); (try simp only [Act.put, List.setIfInBounds_toArray, List.set_cons_zero, List.set_cons_succ])))
              refine sch_e2 rfl rfl rfl rfl rfl rfl ?_ ?_
              · refine ⟨rfl, fun K hK => ?_⟩
                refine wp_app (.tmp 34) (.tmp 38) rfl w1 [(.slice (some ⟨g9, 0, none⟩) 2 c9, putB (p.off).toNat 2 2), (.slice (some ⟨g7, 0, none⟩) 2 c7, putB (p.id).toNat 2 2)] [] _ (v8) (hd6 p ++ putB (p.id).toNat 2 2) rfl HR9.out rfl _ _ _ (putB (p.off).toNat 2 2) rfl rfl (nums_of_own (T := 5) (HR9.out.get 0 rfl)) (by simp [putB, hd20, hd12, hd6, hd4]) ?_
                intro v10 y10 hr
                have HR10 := hide hr
                clear hr
                refine hK _ _ (HS.out _ HR10.out.1) ?_
                clear hK K
                try simp only [Act.put, List.setIfInBounds_toArray, List.set_cons_zero, List.set_cons_succ]
                repeat (first | ((refine sch_y rfl rfl rfl rfl ?_; apply Exists.intro; refine ⟨?_, ?_⟩; next => (intro w' hS; (first | obtain ⟨_, rfl⟩ := hS | skip); go_simp; (try (go_bits; go_simp)); (first | done | with_reducible rfl | (rw [if_neg (by omega)]; (try (go_bits; go_simp)); (first | done | with_reducible rfl)) | (rw [if_pos (by omega)]; (try (go_bits; go_simp)); (first | done | with_reducible rfl))))); (try simp only [Act.put, List.setIfInBounds_toArray, List.set_cons_zero, List.set_cons_succ])) | ((refine sch_skip rfl rfl rfl rfl ?_); (try simp only [Act.put, List.setIfInBounds_toArray, List.set_cons_zero, List.set_cons_succ])))
                refine sch_e1 rfl rfl rfl rfl ?_
                · refine ⟨rfl, fun K hK => ?_⟩
                  go_wp2
                  have HR11 := hide (HR10.out.made #[.int .u8 0, .int .u8 0] [0, 0] 2 rfl (by simp [bcells]) (by decide))
                  refine hK _ _ (HS.out _ HR11.out.1) ?_
                  clear hK K
                  try simp only [Act.put, List.setIfInBounds_toArray, List.set_cons_zero, List.set_cons_succ]
                  repeat (first | ((refine sch_y rfl rfl rfl rfl ?_; apply Exists.intro; refine ⟨?_, ?_⟩; next => (intro w' hS; (first | obtain ⟨_, rfl⟩ := hS | skip); go_simp; (try (go_bits; go_simp)); (first | done | with_reducible rfl | (rw [if_neg (by omega)]; (try (go_bits; go_simp)); (first | done | with_reducible rfl)) | (rw [if_pos (by omega)]; (try (go_bits; go_simp)); (first | done | with_reducible rfl))))); (try simp only [Act.put, List.setIfInBounds_toArray, List.set_cons_zero, List.set_cons_succ])) | ((refine sch_skip rfl rfl rfl rfl ?_); (try simp only [Act.put, List.setIfInBounds_toArray, List.set_cons_zero, List.set_cons_succ])))
                  refine sch_e1 rfl rfl rfl rfl ?_
                  · refine ⟨rfl, fun K hK => ?_⟩
                    refine wp_app (.tmp 39) (.tmp 40) rfl w1 [(.slice (some ⟨y10.heap.size, 0, none⟩) 2 2, [0, 0]), (.slice (some ⟨g9, 0, none⟩) 2 c9, putB (p.off).toNat 2 2), (.slice (some ⟨g7, 0, none⟩) 2 c7, putB (p.id).toNat 2 2)] [] _ (v10) (hd6 p ++ putB (p.id).toNat 2 2 ++ putB (p.off).toNat 2 2) rfl HR11.out rfl _ _ _ ([0, 0]) rfl rfl (nums_of_own (T := 5) (HR11.out.get 0 rfl)) (by simp [putB, hd20, hd12, hd6, hd4]) ?_
                    intro v12 y12 hr
                    have HR12 := hide hr
                    clear hr
                    refine hK _ _ (HS.out _ HR12.out.1) ?_
                    clear hK K
                    try simp only [Act.put, List.setIfInBounds_toArray, List.set_cons_zero, List.set_cons_succ]
                    repeat (first | ((refine sch_y rfl rfl rfl rfl ?_; apply Exists.intro; refine ⟨?_, ?_⟩; next => (intro w' hS; (first | obtain ⟨_, rfl⟩ := hS | skip); go_simp; (try (go_bits; go_simp)); (first | done | with_reducible rfl | (rw [if_neg (by omega)]; (try (go_bits; go_simp)); (first | done | with_reducible rfl)) | (rw [if_pos (by omega)]; (try (go_bits; go_simp)); (first | done | with_reducible rfl))))); (try simp only [Act.put, List.setIfInBounds_toArray, List.set_cons_zero, List.set_cons_succ])) | ((refine sch_skip rfl rfl rfl rfl ?_); (try simp only [Act.put, List.setIfInBounds_toArray, List.set_cons_zero, List.set_cons_succ])))
                    refine sch_nil ?_
                    go_wp2_with fail
                    go_meet
                    exact ⟨HR12.out.get 3 rfl, HR12.out.1⟩
              · refine ⟨rfl, fun K hK => ?_⟩
                go_wp2
                have HR13 := hide (HR9.out.made #[.int .u8 0, .int .u8 0] [0, 0] 2 rfl (by simp [bcells]) (by decide))
                refine hK _ _ (HS.out _ HR13.out.1) ?_
                clear hK K
                try simp only [Act.put, List.setIfInBounds_toArray, List.set_cons_zero, List.set_cons_succ]
                repeat (first | ((refine sch_y rfl rfl rfl rfl ?_; apply Exists.intro; refine ⟨?_, ?_⟩; next => (intro w' hS; (first | obtain ⟨_, rfl⟩ := hS | skip); go_simp; (try (go_bits; go_simp)); (first | done | with_reducible rfl | (rw [if_neg (by omega)]; (try (go_bits; go_simp)); (first | done | with_reducible rfl)) | (rw [if_pos (by omega)]; (try (go_bits; go_simp)); (first | done | with_reducible rfl))))); (try simp only [Act.put, List.setIfInBounds_toArray, List.set_cons_zero, List.set_cons_succ])) | ((refine sch_skip rfl rfl rfl rfl ?_); (try simp only [Act.put, List.setIfInBounds_toArray, List.set_cons_zero, List.set_cons_succ])))
                refine sch_e1 rfl rfl rfl rfl ?_
                · refine ⟨rfl, fun K hK => ?_⟩
                  refine wp_app (.tmp 34) (.tmp 38) rfl w1 [(.slice (some ⟨y9.heap.size, 0, none⟩) 2 2, [0, 0]), (.slice (some ⟨g9, 0, none⟩) 2 c9, putB (p.off).toNat 2 2), (.slice (some ⟨g7, 0, none⟩) 2 c7, putB (p.id).toNat 2 2)] [] _ (v8) (hd6 p ++ putB (p.id).toNat 2 2) rfl HR13.out rfl _ _ _ (putB (p.off).toNat 2 2) rfl rfl (nums_of_own (T := 5) (HR13.out.get 1 rfl)) (by simp [putB, hd20, hd12, hd6, hd4]) ?_
                  intro v14 y14 hr
                  have HR14 := hide hr
                  clear hr
                  refine hK _ _ (HS.out _ HR14.out.1) ?_
                  clear hK K
                  try simp only [Act.put, List.setIfInBounds_toArray, List.set_cons_zero, List.set_cons_succ]
                  repeat (first | ((refine sch_y rfl rfl rfl rfl ?_; apply Exists.intro; refine ⟨?_, ?_⟩; next => (intro w' hS; (first | obtain ⟨_, rfl⟩ := hS | skip); go_simp; (try (go_bits; go_simp)); (first | done | with_reducible rfl | (rw [if_neg (by omega)]; (try (go_bits; go_simp)); (first | done | with_reducible rfl)) | (rw [if_pos (by omega)]; (try (go_bits; go_simp)); (first | done | with_reducible rfl))))); (try simp only [Act.put, List.setIfInBounds_toArray, List.set_cons_zero, List.set_cons_succ])) | ((refine sch_skip rfl rfl rfl rfl ?_); (try simp only [Act.put, List.setIfInBounds_toArray, List.set_cons_zero, List.set_cons_succ])))
                  refine sch_e1 rfl rfl rfl rfl ?_
                  · refine ⟨rfl, fun K hK => ?_⟩
                    refine wp_app (.tmp 39) (.tmp 40) rfl w1 [(.slice (some ⟨y9.heap.size, 0, none⟩) 2 2, [0, 0]), (.slice (some ⟨g9, 0, none⟩) 2 c9, putB (p.off).toNat 2 2), (.slice (some ⟨g7, 0, none⟩) 2 c7, putB (p.id).toNat 2 2)] [] _ (v14) (hd6 p ++ putB (p.id).toNat 2 2 ++ putB (p.off).toNat 2 2) rfl HR14.out rfl _ _ _ ([0, 0]) rfl rfl (nums_of_own (T := 5) (HR14.out.get 0 rfl)) (by simp [putB, hd20, hd12, hd6, hd4]) ?_
                    intro v15 y15 hr
                    have HR15 := hide hr
                    clear hr
                    refine hK _ _ (HS.out _ HR15.out.1) ?_
                    clear hK K
                    try simp only [Act.put, List.setIfInBounds_toArray, List.set_cons_zero, List.set_cons_succ]
                    repeat (first | ((refine sch_y rfl rfl rfl rfl ?_; apply Exists.intro; refine ⟨?_, ?_⟩; next => (intro w' hS; (first | obtain ⟨_, rfl⟩ := hS | skip); go_simp; (try (go_bits; go_simp)); (first | done | with_reducible rfl | (rw [if_neg (by omega)]; (try (go_bits; go_simp)); (first | done | with_reducible rfl)) | (rw [if_pos (by omega)]; (try (go_bits; go_simp)); (first | done | with_reducible rfl))))); (try simp only [Act.put, List.setIfInBounds_toArray, List.set_cons_zero, List.set_cons_succ])) | ((refine sch_skip rfl rfl rfl rfl ?_); (try simp only [Act.put, List.setIfInBounds_toArray, List.set_cons_zero, List.set_cons_succ])))
                    refine sch_nil ?_
                    go_wp2_with fail
                    go_meet
                    exact ⟨HR15.out.get 3 rfl, HR15.out.1⟩
            · refine ⟨rfl, fun K hK => ?_⟩
              go_wp2
              have HR16 := hide (HR8.out.made #[.int .u8 0, .int .u8 0] [0, 0] 2 rfl (by simp [bcells]) (by decide))
              refine hK _ _ (HS.out _ HR16.out.1) ?_
              clear hK K
              try simp only [Act.put, List.setIfInBounds_toArray, List.set_cons_zero, List.set_cons_succ]
              repeat (first | ((refine sch_y rfl rfl rfl rfl ?_; apply Exists.intro; refine ⟨?_, ?_⟩; next => (intro w' hS; (first | obtain ⟨_, rfl⟩ := hS | skip); go_simp; (try (go_bits; go_simp)); (first | done | with_reducible rfl | (rw [if_neg (by omega)]; (try (go_bits; go_simp)); (first | done | with_reducible rfl)) | (rw [if_pos (by omega)]; (try (go_bits; go_simp)); (first | done | with_reducible rfl))))); (try simp only [Act.put, List.setIfInBounds_toArray, List.set_cons_zero, List.set_cons_succ])) | ((refine sch_skip rfl rfl rfl rfl ?_); (try simp only [Act.put, List.setIfInBounds_toArray, List.set_cons_zero, List.set_cons_succ])))
              refine sch_e1 rfl rfl rfl rfl ?_
              · refine ⟨rfl, fun K hK => ?_⟩
                go_wp2_with fail
                refine (rputI_ok p.off 2 _ (by omega) (by omega) (by omega)).mono ?_
                intro e y17 h
                obtain ⟨g17, c17, rfl, hr⟩ := h.rows HR16.out (by decide)
                have HR17 := hide hr
                clear hr h
                refine hK _ _ (HS.out _ HR17.out.1) ?_
                clear hK K
                try simp only [Act.put, List.setIfInBounds_toArray, List.set_cons_zero, List.set_cons_succ]
                repeat (first | ((refine sch_y rfl rfl rfl rfl ?_; apply Exists.intro; refine ⟨?_, ?_⟩; next => (intro w' hS; (first | obtain ⟨_, rfl⟩ := hS | skip); go_simp; (try (go_bits; go_simp)); (first | done | with_reducible rfl | (rw [if_neg (by omega)]; (try (go_bits; go_simp)); (first | done | with_reducible rfl)) | (rw [if_pos (by omega)]; (try (go_bits; go_simp)); (first | done | with_reducible rfl))))); (try simp only [Act.put, List.setIfInBounds_toArray, List.set_cons_zero, List.set_cons_succ])) | ((refine sch_skip rfl rfl rfl rfl ?_); (try simp only [Act.put, List.setIfInBounds_toArray, List.set_cons_zero, List.set_cons_succ])))
                refine sch_e1 rfl rfl rfl rfl ?_
                · refine ⟨rfl, fun K hK => ?_⟩
                  refine wp_app (.tmp 34) (.tmp 38) rfl w1 [(.slice (some ⟨g17, 0, none⟩) 2 c17, putB (p.off).toNat 2 2), (.slice (some ⟨y8.heap.size, 0, none⟩) 2 2, [0, 0]), (.slice (some ⟨g7, 0, none⟩) 2 c7, putB (p.id).toNat 2 2)] [] _ (v8) (hd6 p ++ putB (p.id).toNat 2 2) rfl HR17.out rfl _ _ _ (putB (p.off).toNat 2 2) rfl rfl (nums_of_own (T := 5) (HR17.out.get 0 rfl)) (by simp [putB, hd20, hd12, hd6, hd4]) ?_
                  intro v18 y18 hr
                  have HR18 := hide hr
                  clear hr
                  refine hK _ _ (HS.out _ HR18.out.1) ?_
                  clear hK K
                  try simp only [Act.put, List.setIfInBounds_toArray, List.set_cons_zero, List.set_cons_succ]
                  repeat (first | ((refine sch_y rfl rfl rfl rfl ?_; apply Exists.intro; refine ⟨?_, ?_⟩; next => (intro w' hS; (first | obtain ⟨_, rfl⟩ := hS | skip); go_simp; (try (go_bits; go_simp)); (first | done | with_reducible rfl | (rw [if_neg (by omega)]; (try (go_bits; go_simp)); (first | done | with_reducible rfl)) | (rw [if_pos (by omega)]; (try (go_bits; go_simp)); (first | done | with_reducible rfl))))); (try simp only [Act.put, List.setIfInBounds_toArray, List.set_cons_zero, List.set_cons_succ])) | ((refine sch_skip rfl rfl rfl rfl ?_); (try simp only [Act.put, List.setIfInBounds_toArray, List.set_cons_zero, List.set_cons_succ])))
                  refine sch_e1 rfl rfl rfl rfl ?_
                  · refine ⟨rfl, fun K hK => ?_⟩
                    refine wp_app (.tmp 39) (.tmp 40) rfl w1 [(.slice (some ⟨g17, 0, none⟩) 2 c17, putB (p.off).toNat 2 2), (.slice (some ⟨y8.heap.size, 0, none⟩) 2 2, [0, 0]), (.slice (some ⟨g7, 0, none⟩) 2 c7, putB (p.id).toNat 2 2)] [] _ (v18) (hd6 p ++ putB (p.id).toNat 2 2 ++ putB (p.off).toNat 2 2) rfl HR18.out rfl _ _ _ ([0, 0]) rfl rfl (nums_of_own (T := 5) (HR18.out.get 1 rfl)) (by simp [putB, hd20, hd12, hd6, hd4]) ?_
                    intro v19 y19 hr
                    have HR19 := hide hr
                    clear hr
                    refine hK _ _ (HS.out _ HR19.out.1) ?_
                    clear hK K
                    try simp only [Act.put, List.setIfInBounds_toArray, List.set_cons_zero, List.set_cons_succ]
                    repeat (first | ((refine sch_y rfl rfl rfl rfl ?_; apply Exists.intro; refine ⟨?_, ?_⟩; next => (intro w' hS; (first | obtain ⟨_, rfl⟩ := hS | skip); go_simp; (try (go_bits; go_simp)); (first | done | with_reducible rfl | (rw [if_neg (by omega)]; (try (go_bits; go_simp)); (first | done | with_reducible rfl)) | (rw [if_pos (by omega)]; (try (go_bits; go_simp)); (first | done | with_reducible rfl))))); (try simp only [Act.put, List.setIfInBounds_toArray, List.set_cons_zero, List.set_cons_succ])) | ((refine sch_skip rfl rfl rfl rfl ?_); (try simp only [Act.put, List.setIfInBounds_toArray, List.set_cons_zero, List.set_cons_succ])))
                    refine sch_nil ?_
                    go_wp2_with fail
                    go_meet
                    exact ⟨HR19.out.get 3 rfl, HR19.out.1⟩
          · refine ⟨rfl, fun K hK => ?_⟩
            go_wp2
            have HR20 := hide (HR7.out.made #[.int .u8 0, .int .u8 0] [0, 0] 2 rfl (by simp [bcells]) (by decide))
            refine hK _ _ (HS.out _ HR20.out.1) ?_
            clear hK K
            try simp only [Act.put, List.setIfInBounds_toArray, List.set_cons_zero, List.set_cons_succ]
            repeat (first | ((refine sch_y rfl rfl rfl rfl ?_; apply Exists.intro; refine ⟨?_, ?_⟩; next => (intro w' hS; (first | obtain ⟨_, rfl⟩ := hS | skip); go_simp; (try (go_bits; go_simp)); (first | done | with_reducible rfl | (rw [if_neg (by omega)]; (try (go_bits; go_simp)); (first | done | with_reducible rfl)) | (rw [if_pos (by omega)]; (try (go_bits; go_simp)); (first | done | with_reducible rfl))))); (try simp only [Act.put, List.setIfInBounds_toArray, List.set_cons_zero, List.set_cons_succ])) | ((refine sch_skip rfl rfl rfl rfl ?_); (try simp only [Act.put, List.setIfInBounds_toArray, List.set_cons_zero, List.set_cons_succ])))
            refine sch_e1 rfl rfl rfl rfl ?_
            · refine ⟨rfl, fun K hK => ?_⟩
              refine wp_app (.tmp 29) (.tmp 33) rfl w1 [(.slice (some ⟨y7.heap.size, 0, none⟩) 2 2, [0, 0]), (.slice (some ⟨g7, 0, none⟩) 2 c7, putB (p.id).toNat 2 2)] [] _ (.slice (some ⟨g0, 0, none⟩) (hd6 p).length c0) (hd6 p) rfl HR20.out rfl _ _ _ (putB (p.id).toNat 2 2) rfl rfl (nums_of_own (T := 5) (HR20.out.get 1 rfl)) (by simp [putB, hd20, hd12, hd6, hd4]) ?_
              intro v21 y21 hr
              have HR21 := hide hr
              clear hr
              refine hK _ _ (HS.out _ HR21.out.1) ?_
              clear hK K
              try simp only [Act.put, List.setIfInBounds_toArray, List.set_cons_zero, List.set_cons_succ]
              repeat (first | ((refine sch_y rfl rfl rfl rfl ?_; apply Exists.intro; refine ⟨?_, ?_⟩; next => (intro w' hS; (first | obtain ⟨_, rfl⟩ := hS | skip); go_simp; (try (go_bits; go_simp)); (first | done | with_reducible rfl | (rw [if_neg (by omega)]; (try (go_bits; go_simp)); (first | done | with_reducible rfl)) | (rw [if_pos (by omega)]; (try (go_bits; go_simp)); (first | done | with_reducible rfl))))); (try simp only [Act.put, List.setIfInBounds_toArray, List.set_cons_zero, List.set_cons_succ])) | ((refine sch_skip rfl rfl rfl rfl ?_); (try simp only [Act.put, List.setIfInBounds_toArray, List.set_cons_zero, List.set_cons_succ])))
              refine sch_e1 rfl rfl rfl rfl ?_
              · refine ⟨rfl, fun K hK => ?_⟩
                go_wp2_with fail
                refine (rputI_ok p.off 2 _ (by omega) (by omega) (by omega)).mono ?_
                intro e y22 h
                obtain ⟨g22, c22, rfl, hr⟩ := h.rows HR21.out (by decide)
                have HR22 := hide hr
                clear hr h
                refine hK _ _ (HS.out _ HR22.out.1) ?_
                clear hK K
                try simp only [Act.put, List.setIfInBounds_toArray, List.set_cons_zero, List.set_cons_succ]
                repeat (first | ((refine sch_y rfl rfl rfl rfl ?_; apply Exists.intro; refine ⟨?_, ?_⟩; next => (intro w' hS; (first | obtain ⟨_, rfl⟩ := hS | skip); go_simp; (try (go_bits; go_simp)); (first | done | with_reducible rfl | (rw [if_neg (by omega)]; (try (go_bits; go_simp)); (first | done | with_reducible rfl)) | (rw [if_pos (by omega)]; (try (go_bits; go_simp)); (first | done | with_reducible rfl))))); (try simp only [Act.put, List.setIfInBounds_toArray, List.set_cons_zero, List.set_cons_succ])) | ((refine sch_skip rfl rfl rfl rfl ?_); (try simp only [Act.put, List.setIfInBounds_toArray, List.set_cons_zero, List.set_cons_succ])))
                refine sch_e1 rfl rfl rfl rfl ?_
                · refine ⟨rfl, fun K hK => ?_⟩
                  refine wp_app (.tmp 34) (.tmp 38) rfl w1 [(.slice (some ⟨g22, 0, none⟩) 2 c22, putB (p.off).toNat 2 2), (.slice (some ⟨y7.heap.size, 0, none⟩) 2 2, [0, 0]), (.slice (some ⟨g7, 0, none⟩) 2 c7, putB (p.id).toNat 2 2)] [] _ (v21) (hd6 p ++ putB (p.id).toNat 2 2) rfl HR22.out rfl _ _ _ (putB (p.off).toNat 2 2) rfl rfl (nums_of_own (T := 5) (HR22.out.get 0 rfl)) (by simp [putB, hd20, hd12, hd6, hd4]) ?_
                  intro v23 y23 hr
                  have HR23 := hide hr
                  clear hr
                  refine hK _ _ (HS.out _ HR23.out.1) ?_
                  clear hK K
                  try simp only [Act.put, List.setIfInBounds_toArray, List.set_cons_zero, List.set_cons_succ]
                  repeat (first | ((refine sch_y rfl rfl rfl rfl ?_; apply Exists.intro; refine ⟨?_, ?_⟩; next => (intro w' hS; (first | obtain ⟨_, rfl⟩ := hS | skip); go_simp; (try (go_bits; go_simp)); (first | done | with_reducible rfl | (rw [if_neg (by omega)]; (try (go_bits; go_simp)); (first | done | with_reducible rfl)) | (rw [if_pos (by omega)]; (try (go_bits; go_simp)); (first | done | with_reducible rfl))))); (try simp only [Act.put, List.setIfInBounds_toArray, List.set_cons_zero, List.set_cons_succ])) | ((refine sch_skip rfl rfl rfl rfl ?_); (try simp only [Act.put, List.setIfInBounds_toArray, List.set_cons_zero, List.set_cons_succ])))
                  refine sch_e1 rfl rfl rfl rfl ?_
                  · refine ⟨rfl, fun K hK => ?_⟩
                    refine wp_app (.tmp 39) (.tmp 40) rfl w1 [(.slice (some ⟨g22, 0, none⟩) 2 c22, putB (p.off).toNat 2 2), (.slice (some ⟨y7.heap.size, 0, none⟩) 2 2, [0, 0]), (.slice (some ⟨g7, 0, none⟩) 2 c7, putB (p.id).toNat 2 2)] [] _ (v23) (hd6 p ++ putB (p.id).toNat 2 2 ++ putB (p.off).toNat 2 2) rfl HR23.out rfl _ _ _ ([0, 0]) rfl rfl (nums_of_own (T := 5) (HR23.out.get 1 rfl)) (by simp [putB, hd20, hd12, hd6, hd4]) ?_
                    intro v24 y24 hr
                    have HR24 := hide hr
                    clear hr
                    refine hK _ _ (HS.out _ HR24.out.1) ?_
                    clear hK K
                    try simp only [Act.put, List.setIfInBounds_toArray, List.set_cons_zero, List.set_cons_succ]
                    repeat (first | ((refine sch_y rfl rfl rfl rfl ?_; apply Exists.intro; refine ⟨?_, ?_⟩; next => (intro w' hS; (first | obtain ⟨_, rfl⟩ := hS | skip); go_simp; (try (go_bits; go_simp)); (first | done | with_reducible rfl | (rw [if_neg (by omega)]; (try (go_bits; go_simp)); (first | done | with_reducible rfl)) | (rw [if_pos (by omega)]; (try (go_bits; go_simp)); (first | done | with_reducible rfl))))); (try simp only [Act.put, List.setIfInBounds_toArray, List.set_cons_zero, List.set_cons_succ])) | ((refine sch_skip rfl rfl rfl rfl ?_); (try simp only [Act.put, List.setIfInBounds_toArray, List.set_cons_zero, List.set_cons_succ])))
                    refine sch_nil ?_
                    go_wp2_with fail
                    go_meet
                    exact ⟨HR24.out.get 3 rfl, HR24.out.1⟩
        · refine ⟨rfl, fun K hK => ?_⟩
          go_wp2
          have HR25 := hide (HR0.out.made #[.int .u8 0, .int .u8 0] [0, 0] 2 rfl (by simp [bcells]) (by decide))
          refine hK _ _ (HS.out _ HR25.out.1) ?_
          clear hK K
          try simp only [Act.put, List.setIfInBounds_toArray, List.set_cons_zero, List.set_cons_succ]
          repeat (first | ((refine sch_y rfl rfl rfl rfl ?_; apply Exists.intro; refine ⟨?_, ?_⟩; next => (intro w' hS; (first | obtain ⟨_, rfl⟩ := hS | skip); go_simp; (try (go_bits; go_simp)); (first | done | with_reducible rfl | (rw [if_neg (by omega)]; (try (go_bits; go_simp)); (first | done | with_reducible rfl)) | (rw [if_pos (by omega)]; (try (go_bits; go_simp)); (first | done | with_reducible rfl))))); (try simp only [Act.put, List.setIfInBounds_toArray, List.set_cons_zero, List.set_cons_succ])) | ((refine sch_skip rfl rfl rfl rfl ?_); (try simp only [Act.put, List.setIfInBounds_toArray, List.set_cons_zero, List.set_cons_succ])))
          refine sch_e1 rfl rfl rfl rfl ?_
          · refine ⟨rfl, fun K hK => ?_⟩
            go_wp2_with fail
            refine (rputI_ok p.id 2 _ (by omega) (by omega) (by omega)).mono ?_
            intro e y26 h
            obtain ⟨g26, c26, rfl, hr⟩ := h.rows HR25.out (by decide)
            have HR26 := hide hr
            clear hr h
            refine hK _ _ (HS.out _ HR26.out.1) ?_
            clear hK K
            try simp only [Act.put, List.setIfInBounds_toArray, List.set_cons_zero, List.set_cons_succ]
            repeat (first | ((refine sch_y rfl rfl rfl rfl ?_; apply Exists.intro; refine ⟨?_, ?_⟩; next => (intro w' hS; (first | obtain ⟨_, rfl⟩ := hS | skip); go_simp; (try (go_bits; go_simp)); (first | done | with_reducible rfl | (rw [if_neg (by omega)]; (try (go_bits; go_simp)); (first | done | with_reducible rfl)) | (rw [if_pos (by omega)]; (try (go_bits; go_simp)); (first | done | with_reducible rfl))))); (try simp only [Act.put, List.setIfInBounds_toArray, List.set_cons_zero, List.set_cons_succ])) | ((refine sch_skip rfl rfl rfl rfl ?_); (try simp only [Act.put, List.setIfInBounds_toArray, List.set_cons_zero, List.set_cons_succ])))
            refine sch_e1 rfl rfl rfl rfl ?_
            · refine ⟨rfl, fun K hK => ?_⟩
              refine wp_app (.tmp 29) (.tmp 33) rfl w1 [(.slice (some ⟨g26, 0, none⟩) 2 c26, putB (p.id).toNat 2 2), (.slice (some ⟨wc.drew.heap.size, 0, none⟩) 2 2, [0, 0])] [] _ (.slice (some ⟨g0, 0, none⟩) (hd6 p).length c0) (hd6 p) rfl HR26.out rfl _ _ _ (putB (p.id).toNat 2 2) rfl rfl (nums_of_own (T := 5) (HR26.out.get 0 rfl)) (by simp [putB, hd20, hd12, hd6, hd4]) ?_
              intro v27 y27 hr
              have HR27 := hide hr
              clear hr
              refine hK _ _ (HS.out _ HR27.out.1) ?_
              clear hK K
              try simp only [Act.put, List.setIfInBounds_toArray, List.set_cons_zero, List.set_cons_succ]
              repeat (first | ((refine sch_y rfl rfl rfl rfl ?_; apply Exists.intro; refine ⟨?_, ?_⟩; next => (intro w' hS; (first | obtain ⟨_, rfl⟩ := hS | skip); go_simp; (try (go_bits; go_simp)); (first | done | with_reducible rfl | (rw [if_neg (by omega)]; (try (go_bits; go_simp)); (first | done | with_reducible rfl)) | (rw [if_pos (by omega)]; (try (go_bits; go_simp)); (first | done | with_reducible rfl))))); (try simp only [Act.put, List.setIfInBounds_toArray, List.set_cons_zero, List.set_cons_succ])) | ((refine sch_skip rfl rfl rfl rfl ?_); (try simp only [Act.put, List.setIfInBounds_toArray, List.set_cons_zero, List.set_cons_succ])))
              refine sch_e1 rfl rfl rfl rfl ?_
              · refine ⟨rfl, fun K hK => ?_⟩
                go_wp2_with fail
                refine (rputI_ok p.off 2 _ (by omega) (by omega) (by omega)).mono ?_
                intro e y28 h
                obtain ⟨g28, c28, rfl, hr⟩ := h.rows HR27.out (by decide)
                have HR28 := hide hr
                clear hr h
                refine hK _ _ (HS.out _ HR28.out.1) ?_
                clear hK K
                try simp only [Act.put, List.setIfInBounds_toArray, List.set_cons_zero, List.set_cons_succ]
                repeat (first | ((refine sch_y rfl rfl rfl rfl ?_; apply Exists.intro; refine ⟨?_, ?_⟩; next => (intro w' hS; (first | obtain ⟨_, rfl⟩ := hS | skip); go_simp; (try (go_bits; go_simp)); (first | done | with_reducible rfl | (rw [if_neg (by omega)]; (try (go_bits; go_simp)); (first | done | with_reducible rfl)) | (rw [if_pos (by omega)]; (try (go_bits; go_simp)); (first | done | with_reducible rfl))))); (try simp only [Act.put, List.setIfInBounds_toArray, List.set_cons_zero, List.set_cons_succ])) | ((refine sch_skip rfl rfl rfl rfl ?_); (try simp only [Act.put, List.setIfInBounds_toArray, List.set_cons_zero, List.set_cons_succ])))
                refine sch_e1 rfl rfl rfl rfl ?_
                · refine ⟨rfl, fun K hK => ?_⟩
                  refine wp_app (.tmp 34) (.tmp 38) rfl w1 [(.slice (some ⟨g28, 0, none⟩) 2 c28, putB (p.off).toNat 2 2), (.slice (some ⟨g26, 0, none⟩) 2 c26, putB (p.id).toNat 2 2), (.slice (some ⟨wc.drew.heap.size, 0, none⟩) 2 2, [0, 0])] [] _ (v27) (hd6 p ++ putB (p.id).toNat 2 2) rfl HR28.out rfl _ _ _ (putB (p.off).toNat 2 2) rfl rfl (nums_of_own (T := 5) (HR28.out.get 0 rfl)) (by simp [putB, hd20, hd12, hd6, hd4]) ?_
                  intro v29 y29 hr
                  have HR29 := hide hr
                  clear hr
                  refine hK _ _ (HS.out _ HR29.out.1) ?_
                  clear hK K
                  try simp only [Act.put, List.setIfInBounds_toArray, List.set_cons_zero, List.set_cons_succ]
                  repeat (first | ((refine sch_y rfl rfl rfl rfl ?_; apply Exists.intro; refine ⟨?_, ?_⟩; next => (intro w' hS; (first | obtain ⟨_, rfl⟩ := hS | skip); go_simp; (try (go_bits; go_simp)); (first | done | with_reducible rfl | (rw [if_neg (by omega)]; (try (go_bits; go_simp)); (first | done | with_reducible rfl)) | (rw [if_pos (by omega)]; (try (go_bits; go_simp)); (first | done | with_reducible rfl))))); (try simp only [Act.put, List.setIfInBounds_toArray, List.set_cons_zero, List.set_cons_succ])) | ((refine sch_skip rfl rfl rfl rfl ?_); (try simp only [Act.put, List.setIfInBounds_toArray, List.set_cons_zero, List.set_cons_succ])))
                  refine sch_e1 rfl rfl rfl rfl ?_
                  · refine ⟨rfl, fun K hK => ?_⟩
                    refine wp_app (.tmp 39) (.tmp 40) rfl w1 [(.slice (some ⟨g28, 0, none⟩) 2 c28, putB (p.off).toNat 2 2), (.slice (some ⟨g26, 0, none⟩) 2 c26, putB (p.id).toNat 2 2), (.slice (some ⟨wc.drew.heap.size, 0, none⟩) 2 2, [0, 0])] [] _ (v29) (hd6 p ++ putB (p.id).toNat 2 2 ++ putB (p.off).toNat 2 2) rfl HR29.out rfl _ _ _ ([0, 0]) rfl rfl (nums_of_own (T := 5) (HR29.out.get 2 rfl)) (by simp [putB, hd20, hd12, hd6, hd4]) ?_
                    intro v30 y30 hr
                    have HR30 := hide hr
                    clear hr
                    refine hK _ _ (HS.out _ HR30.out.1) ?_
                    clear hK K
                    try simp only [Act.put, List.setIfInBounds_toArray, List.set_cons_zero, List.set_cons_succ]
                    repeat (first | ((refine sch_y rfl rfl rfl rfl ?_; apply Exists.intro; refine ⟨?_, ?_⟩; next => (intro w' hS; (first | obtain ⟨_, rfl⟩ := hS | skip); go_simp; (try (go_bits; go_simp)); (first | done | with_reducible rfl | (rw [if_neg (by omega)]; (try (go_bits; go_simp)); (first | done | with_reducible rfl)) | (rw [if_pos (by omega)]; (try (go_bits; go_simp)); (first | done | with_reducible rfl))))); (try simp only [Act.put, List.setIfInBounds_toArray, List.set_cons_zero, List.set_cons_succ])) | ((refine sch_skip rfl rfl rfl rfl ?_); (try simp only [Act.put, List.setIfInBounds_toArray, List.set_cons_zero, List.set_cons_succ])))
                    refine sch_nil ?_
                    go_wp2_with fail
                    go_meet
                    exact ⟨HR30.out.get 3 rfl, HR30.out.1⟩
      case rest =>
        obtain ⟨g0, c0, rfl⟩ := own_some hcut.1 (by simp [hd20, hd12, hd6, hd4, putB])
        have HH := hide hcut
        clear hcut
        go_wp2_with fail
        go_cut [6] (fun s wx => HeadS w1 (hd20 p) s wx)
        case first =>
          have HS := hide (show ∀ W : World, Only [] w1 W → (fun w' => w'.cell? ⟨q, 0, none⟩ = some (.int .u32 p.src) ∧ w'.cell? ⟨q, 1, none⟩ = some (.int .u32 p.dst)) W from fun W hW => ⟨(HB.out W hW).cell (i := 0) rfl, (HB.out W hW).cell (i := 1) rfl⟩)
          have HR0 := hide ((HeadS.rows HH.out).only (Only.refl [] wc).drew)
          refine wp_region_sch 12 [4, 5, 9, 10] (fun w' => w'.cell? ⟨q, 0, none⟩ = some (.int .u32 p.src) ∧ w'.cell? ⟨q, 1, none⟩ = some (.int .u32 p.dst)) (by kernel_rfl) (by kernel_rfl) (HS.out _ HR0.out.1) ?_
          repeat (first | ((refine sch_y rfl rfl rfl rfl ?_; apply Exists.intro; refine ⟨?_, ?_⟩; next => (intro w' hS; (first | obtain ⟨_, rfl⟩ := hS | skip); go_simp; (try (go_bits; go_simp)); (first | done | with_reducible rfl | (rw [if_neg (by omega)]; (try (go_bits; go_simp)); (first | done | with_reducible rfl)) | (rw [if_pos (by omega)]; (try (go_bits; go_simp)); (first | done | with_reducible rfl))))); (try simp only [Act.put, List.setIfInBounds_toArray, List.set_cons_zero, List.set_cons_succ])) | ((refine sch_skip rfl rfl rfl rfl ?_); (try simp only [Act.put, List.setIfInBounds_toArray, List.set_cons_zero, List.set_cons_succ])))
          refine sch_e1 rfl rfl rfl rfl ?_
          · refine ⟨rfl, fun K hK => ?_⟩
            go_wp2_with fail
            refine (rputI_ok p.src 4 _ (by omega) (by omega) (by omega)).mono ?_
            intro e y31 h
            obtain ⟨g31, c31, rfl, hr⟩ := h.rows HR0.out (by decide)
            have HR31 := hide hr
            clear hr h
            refine hK _ _ (HS.out _ HR31.out.1) ?_
            clear hK K
            try simp only [Act.put, List.setIfInBounds_toArray, List.set_cons_zero, List.set_cons_succ]
            repeat (first | ((refine sch_y rfl rfl rfl rfl ?_; apply Exists.intro; refine ⟨?_, ?_⟩; next => (intro w' hS; (first | obtain ⟨_, rfl⟩ := hS | skip); go_simp; (try (go_bits; go_simp)); (first | done | with_reducible rfl | (rw [if_neg (by omega)]; (try (go_bits; go_simp)); (first | done | with_reducible rfl)) | (rw [if_pos (by omega)]; (try (go_bits; go_simp)); (first | done | with_reducible rfl))))); (try simp only [Act.put, List.setIfInBounds_toArray, List.set_cons_zero, List.set_cons_succ])) | ((refine sch_skip rfl rfl rfl rfl ?_); (try simp only [Act.put, List.setIfInBounds_toArray, List.set_cons_zero, List.set_cons_succ])))
            refine sch_e1 rfl rfl rfl rfl ?_
            · refine ⟨rfl, fun K hK => ?_⟩
              refine wp_app (.tmp 42) (.tmp 46) rfl w1 [(.slice (some ⟨g31, 0, none⟩) 4 c31, putB (p.src).toNat 4 4)] [] _ (.slice (some ⟨g0, 0, none⟩) (hd12 p).length c0) (hd12 p) rfl HR31.out rfl _ _ _ (putB (p.src).toNat 4 4) rfl rfl (nums_of_own (T := 5) (HR31.out.get 0 rfl)) (by simp [putB, hd20, hd12, hd6, hd4]) ?_
              intro v32 y32 hr
              have HR32 := hide hr
              clear hr
              refine hK _ _ (HS.out _ HR32.out.1) ?_
              clear hK K
              try simp only [Act.put, List.setIfInBounds_toArray, List.set_cons_zero, List.set_cons_succ]
              repeat (first | ((refine sch_y rfl rfl rfl rfl ?_; apply Exists.intro; refine ⟨?_, ?_⟩; next => (intro w' hS; (first | obtain ⟨_, rfl⟩ := hS | skip); go_simp; (try (go_bits; go_simp)); (first | done | with_reducible rfl | (rw [if_neg (by omega)]; (try (go_bits; go_simp)); (first | done | with_reducible rfl)) | (rw [if_pos (by omega)]; (try (go_bits; go_simp)); (first | done | with_reducible rfl))))); (try simp only [Act.put, List.setIfInBounds_toArray, List.set_cons_zero, List.set_cons_succ])) | ((refine sch_skip rfl rfl rfl rfl ?_); (try simp only [Act.put, List.setIfInBounds_toArray, List.set_cons_zero, List.set_cons_succ])))
              refine sch_e1 rfl rfl rfl rfl ?_
              · refine ⟨rfl, fun K hK => ?_⟩
                go_wp2_with fail
                refine (rputI_ok p.dst 4 _ (by omega) (by omega) (by omega)).mono ?_
                intro e y33 h
                obtain ⟨g33, c33, rfl, hr⟩ := h.rows HR32.out (by decide)
                have HR33 := hide hr
                clear hr h
                refine hK _ _ (HS.out _ HR33.out.1) ?_
                clear hK K
                try simp only [Act.put, List.setIfInBounds_toArray, List.set_cons_zero, List.set_cons_succ]
                repeat (first | ((refine sch_y rfl rfl rfl rfl ?_; apply Exists.intro; refine ⟨?_, ?_⟩; next => (intro w' hS; (first | obtain ⟨_, rfl⟩ := hS | skip); go_simp; (try (go_bits; go_simp)); (first | done | with_reducible rfl | (rw [if_neg (by omega)]; (try (go_bits; go_simp)); (first | done | with_reducible rfl)) | (rw [if_pos (by omega)]; (try (go_bits; go_simp)); (first | done | with_reducible rfl))))); (try simp only [Act.put, List.setIfInBounds_toArray, List.set_cons_zero, List.set_cons_succ])) | ((refine sch_skip rfl rfl rfl rfl ?_); (try simp only [Act.put, List.setIfInBounds_toArray, List.set_cons_zero, List.set_cons_succ])))
                refine sch_e1 rfl rfl rfl rfl ?_
                · refine ⟨rfl, fun K hK => ?_⟩
                  refine wp_app (.tmp 47) (.tmp 51) rfl w1 [(.slice (some ⟨g33, 0, none⟩) 4 c33, putB (p.dst).toNat 4 4), (.slice (some ⟨g31, 0, none⟩) 4 c31, putB (p.src).toNat 4 4)] [] _ (v32) (hd12 p ++ putB (p.src).toNat 4 4) rfl HR33.out rfl _ _ _ (putB (p.dst).toNat 4 4) rfl rfl (nums_of_own (T := 5) (HR33.out.get 0 rfl)) (by simp [putB, hd20, hd12, hd6, hd4]) ?_
                  intro v34 y34 hr
                  have HR34 := hide hr
                  clear hr
                  refine hK _ _ (HS.out _ HR34.out.1) ?_
                  clear hK K
                  try simp only [Act.put, List.setIfInBounds_toArray, List.set_cons_zero, List.set_cons_succ]
                  repeat (first | ((refine sch_y rfl rfl rfl rfl ?_; apply Exists.intro; refine ⟨?_, ?_⟩; next => (intro w' hS; (first | obtain ⟨_, rfl⟩ := hS | skip); go_simp; (try (go_bits; go_simp)); (first | done | with_reducible rfl | (rw [if_neg (by omega)]; (try (go_bits; go_simp)); (first | done | with_reducible rfl)) | (rw [if_pos (by omega)]; (try (go_bits; go_simp)); (first | done | with_reducible rfl))))); (try simp only [Act.put, List.setIfInBounds_toArray, List.set_cons_zero, List.set_cons_succ])) | ((refine sch_skip rfl rfl rfl rfl ?_); (try simp only [Act.put, List.setIfInBounds_toArray, List.set_cons_zero, List.set_cons_succ])))
                  refine sch_nil ?_
                  go_wp2_with fail
                  go_meet
                  exact ⟨HR34.out.get 2 rfl, HR34.out.1⟩
        case rest =>
          obtain ⟨g0, c0, rfl⟩ := own_some hcut.1 (by simp [hd20, hd12, hd6, hd4, putB])
          have HH := hide hcut
          clear hcut
          have hlen : (hd20 p).length = 20 := by simp [hd20, hd12, hd6, hd4, putB]
          have hcc : 20 ≤ c0 := by
            rcases HH.out.1.2 with ⟨h1, _⟩ | ⟨g, cap, cur, h1, _, _, h2, _⟩
            · cases h1
            · injection h1 with _ _ h3; omega
          have HC := hide (hd20_eq p HF.out hl b5 b6 b7 b8)
          have H1 := hide (show wc.ownsRow w1.heap.size 5 1 (.slice (some ⟨g0, 0, none⟩) 20 c0) 20 (hcells (hd p 0)) ∧ Only [] w1 wc from by
            have h := HH.out
            unfold HeadS at h
            rw [hlen, HC.out] at h
            refine ⟨?_, h.2⟩
            have e : bcells ((List.range 20).map (hd p 0)) = hcells (hd p 0) := by unfold bcells hcells; rw [List.map_map]; rfl
            rw [← e]; exact h.1)
          rw [hlen]
          clear HH hlen
          have h8 := hide (fun j => hd_le HF.out HBD.out (s := 0) (by omega) j)
          go_wp2_with fail
          refine (rsum_ok g0 0 20 c0 (hd p 0) _ h8.out (Nat.le_refl _) hcc (fun j hj => by rw [Nat.zero_add, H1.out.1.cellAt j (by omega)]; exact hcells_at _ hj)).mono ?_
          rintro e w2 ⟨rfl, ho⟩
          have H2 := hide (show RowsOk w1 w2 [(.slice (some ⟨g0, 0, none⟩) 20 c0, (List.range 20).map (hd p 0))] from ⟨Only.trans H1.out.2 ho, fun r hr => by
            obtain rfl : r = (.slice (some ⟨g0, 0, none⟩) 20 c0, (List.range 20).map (hd p 0)) := by simpa using hr
            have e : bcells ((List.range 20).map (hd p 0)) = hcells (hd p 0) := by unfold bcells hcells; rw [List.map_map]; rfl
            show w2.ownsRow w1.heap.size 5 1 _ ((List.range 20).map (hd p 0)).length (bcells ((List.range 20).map (hd p 0)))
            rw [e, List.length_map, List.length_range]
            exact own_nil H1.out.1 ho, by simp⟩)
          have HSM := hide (show 65535 - sumw (hwords (hd p 0)) = p.sum from rfl)
          rw [HSM.out]
          have hsm := p.sum_le
          clear H1 ho HSM
          go_wp2_with fail
          refine (rput_ok p.sum 2 _ (by omega) (by omega)).mono ?_
          intro e w3 h
          obtain ⟨g1, c1, rfl, hr⟩ := h.rows H2.out (by decide)
          have HR := hide hr
          clear hr h H2
          have hown1 := HR.out.get 0 rfl
          have hown0 := HR.out.get 1 rfl
          have y0 := World.ownsRow.cellAt (n := 2) hown1 0 (by omega)
          have y1 := World.ownsRow.cellAt (n := 2) hown1 1 (by omega)
          have x0 := World.ownsRow.cellAt (n := 20) hown0 10 (by omega)
          have x1 := World.ownsRow.cellAt (n := 20) hown0 11 (by omega)
          have f0 := World.ownsRow.frozenAt (n := 20) hown0 10
          have f1 := World.ownsRow.frozenAt (n := 20) hown0 11
          have z0 : (bcells (putB p.sum 2 2))[0]? = some (.int .u8 ((p.sum / 256 % 256 : Nat) : Int)) := rfl
          have z1 : (bcells (putB p.sum 2 2))[1]? = some (.int .u8 ((p.sum % 256 : Nat) : Int)) := by simp [bcells, putB]
          have z2 : (bcells ((List.range 20).map (hd p 0)))[10]? = some (.int .u8 0) := rfl
          have z3 : (bcells ((List.range 20).map (hd p 0)))[11]? = some (.int .u8 0) := rfl
          dsimp only at y0 y1 x0 x1 f0 f1
          rw [z0] at y0
          rw [z1] at y1
          rw [z2] at x0
          rw [z3] at x1
          have lt0 : g0 < w3.heap.size := (hown0.lt g0 rfl).2
          have lt1 : g1 < w3.heap.size := (hown1.lt g1 rfl).2
          have hq3 := HB.out _ HR.out.1
          have e7 := hq3.cell (i := 7) rfl
          have hg10 : g1 ≠ g0 := fun h => by
            have := List.rel_of_pairwise_cons HR.out.2.2 (show (_ : Value × List Nat) ∈ _ from List.mem_singleton.2 rfl) g1 rfl
            exact this (by rw [h]; rfl)
          have hq0 : q ≠ g0 := by have := (hown0.lt g0 rfl).1; omega
          clear z0 z1 z2 z3 hown0 hown1 hq3
          have HS0 : Hid (p.sum / 256 ≤ 255) := hide (by omega)
          have HOW := hide (show w3.ownsRow w1.heap.size 5 1 (.slice (some ⟨g0, 0, none⟩) 20 c0) 20 (bcells ((List.range 20).map (hd p 0))) from HR.out.get 1 rfl)
          have HX := hide (rset p w1 w3 g0 c0 HR.out.1 HOW.out)
          obtain ⟨W4, hW4⟩ : ∃ W4, W4 = ((w3.setCell ⟨g0, 10, none⟩ (.int .u8 ((p.sum : Int) / 256 % 256))).setCell ⟨g0, 11, none⟩ (.int .u8 ((p.sum : Int) % 256))).drew := ⟨_, rfl⟩
          have HW4 := hide hW4
          rw [← hW4] at HX
          have g7 := (HB.out _ HX.out.1).cell (i := 7) rfl
          have ltq4 := (HB.out _ HX.out.1).lt
          clear hW4 HR HOW
          go_wp2_with fail
          refine wp_region_text 9 [] [1] [] (fun _ => True) (by kernel_rfl) (by kernel_rfl) trivial ?_
          simp only [List.take_succ_cons, List.take_zero, List.drop_succ_cons, List.drop_zero]
          repeat (first | ((refine wpText_h rfl rfl ?_; apply Exists.intro; refine ⟨?_, ?_⟩; next => (go_simp; (try (go_bits; go_simp)); (first | done | with_reducible rfl | (rw [if_neg (by omega)]; (try (go_bits; go_simp)); (first | done | with_reducible rfl)) | (rw [if_pos (by omega)]; (try (go_bits; go_simp)); (first | done | with_reducible rfl))))); (try simp only [Act.put, List.setIfInBounds_toArray, List.set_cons_zero, List.set_cons_succ])) | ((refine wpText_p rfl rfl ?_; apply Exists.intro; refine ⟨?_, ?_⟩; next => (intro w'; go_simp; (try (go_bits; go_simp)); (first | done | with_reducible rfl | (rw [if_neg (by omega)]; (try (go_bits; go_simp)); (first | done | with_reducible rfl)) | (rw [if_pos (by omega)]; (try (go_bits; go_simp)); (first | done | with_reducible rfl))))); (try simp only [Act.put, List.setIfInBounds_toArray, List.set_cons_zero, List.set_cons_succ])) | ((refine wpText_y rfl rfl ?_; apply Exists.intro; refine ⟨?_, ?_⟩; next => (intro w' hS; (first | obtain ⟨_, rfl⟩ := hS | skip); go_simp; (try (go_bits; go_simp)); (first | done | with_reducible rfl | (rw [if_neg (by omega)]; (try (go_bits; go_simp)); (first | done | with_reducible rfl)) | (rw [if_pos (by omega)]; (try (go_bits; go_simp)); (first | done | with_reducible rfl))))); (try simp only [Act.put, List.setIfInBounds_toArray, List.set_cons_zero, List.set_cons_succ])) | (refine wpText_skip (by first | exact .inl rfl | exact .inr (.inl rfl) | exact .inr (.inr rfl)) rfl ?_; (try simp only [Act.put, List.setIfInBounds_toArray, List.set_cons_zero, List.set_cons_succ])))
          refine wpText_nil ?_
          go_wp2
          refine NoX.normal ?_
          rw [← HW4.out]
          clear x0 x1 f0 f1 y0 y1 lt0 lt1 e7 HW4 ltq
          by_cases hm : p.data.length = 0
          · have hnil : ∀ ty, (Builtin.append_ #[28, 28] ty #[.slice (some ⟨g0, 0, none⟩) 20 c0, .slice p.A p.data.length p.cap]).run Try.prog W4 = .ok (.slice (some ⟨g0, 0, none⟩) 20 c0) W4 := fun ty => by
              obtain ⟨i0, hi, hz0, hz1, hz2⟩ := info_parts u8_info
              refine run_append_nothing W4 28 28 ty 5 i0 Try.underlying28 hi (some ⟨g0, 0, none⟩) 20 c0 hcc _ ?_
              rw [hm]
              cases hA : p.A with
              | none => exact Src.ofNil W4 Try.underlying28 p.cap
              | some a => exact Src.ofSlice W4 Try.underlying28 a 0 p.cap [] (by simp) (by simp) (by simp)
            have HM := hide hm
            have HNIL := hide hnil
            clear hm hnil
            go_wp2_with (at_builtin; refine wpList_append_eq rfl (.tmp 67) (.tmp 69) 28 rfl _ _ _ rfl rfl HNIL.out ?_)
            go_ret2
            have hd0 : p.data = [] := List.length_eq_zero_iff.1 HM.out
            have hb20 : p.bytes.length = 20 := by unfold Pkt.bytes; rw [List.length_append, HM.out]; simp
            refine ⟨some ⟨g0, 0, none⟩, c0, by rw [hb20]; rfl, ?_, Only.trans HQ.out.1 HX.out.1⟩
            have he : p.bytes = (List.range 20).map (hd p p.sum) := by unfold Pkt.bytes; rw [hd0, List.append_nil]
            rw [he]
            exact nums_of_own (T := 5) HX.out.2
          · have hA1 : ∃ a, p.A = some a := by
              cases hA : p.A with
              | none => exact absurd (H0.out hA).1 hm
              | some a => exact ⟨a, rfl⟩
            obtain ⟨a, ha⟩ := hA1
            have HRW := hide (show RowsOk w1 W4 [(.slice (some ⟨g0, 0, none⟩) 20 c0, (List.range 20).map (hd p p.sum))] from ⟨HX.out.1, fun r hr => by
              obtain rfl : r = (.slice (some ⟨g0, 0, none⟩) 20 c0, (List.range 20).map (hd p p.sum)) := by simpa using hr
              show W4.ownsRow w1.heap.size 5 1 _ ((List.range 20).map (hd p p.sum)).length (bcells ((List.range 20).map (hd p p.sum)))
              rw [List.length_map, List.length_range]; exact HX.out.2, by simp⟩)
            have HDN := hide (show NumsIn W4 .u8 (some a) p.data by rw [← ha]; exact HA.out.only (Only.trans HQ.out.1 HX.out.1))
            have HAA := hide ha
            clear hm ha
            go_wp2_with (at_builtin; refine wpList_app rfl (.tmp 67) (.tmp 69) rfl w1 [] [] _ (.slice (some ⟨g0, 0, none⟩) 20 c0) ((List.range 20).map (hd p p.sum)) rfl HRW.out rfl a p.data.length p.cap p.data (by rw [← HAA.out]; rfl) rfl HDN.out (by simp; omega) ?_; intro v5 w5 hr5)
            have hR5 : w5.ownsRow w1.heap.size 5 1 v5 p.bytes.length (bcells p.bytes) := hr5.get 0 rfl
            obtain ⟨A5, c5, rfl⟩ := own_shape hR5
            have H5 := hide (show _ ∧ _ from ⟨hr5.1, hR5⟩)
            clear hR5 hr5
            go_wp2
            go_ret2
            exact ⟨A5, c5, rfl, nums_of_own (T := 5) H5.out.2, Only.trans HQ.out.1 H5.out.1⟩

end Go.Proofs.Ytlnejlhdkmneeaa
