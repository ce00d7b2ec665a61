/- PacketsChanged answers true. -/
import Derived.Test.YtlnejlhdkmneeaaLawChanged
namespace Go.Proofs.Ytlnejlhdkmneeaa
open Go.RowKit

set_option maxRecDepth 100000 in
set_option maxHeartbeats 8000000 in
theorem changed_ok (p : Pkt) (a x : Nat) (w : World) (ha : a ≤ 255) (hx : x ≤ 255) (hf : p.Fit) (hl : p.data.length ≤ maxLen) (hA : NumsIn w .u8 p.A p.data) :
    Calls Try.prog 4 #[p.V, .int .u8 (a : Int), .int .u8 (x : Int)] w fun e w' => e = .returned (.bool true) ∧ Only [] w w' := by
  have hO : Only [] w (w.alloc (.cells #[.int .u32 p.src, .int .u32 p.dst, I64 p.proto, I64 p.ttl, I64 p.id, I64 p.off, .bool p.more, .slice p.A p.data.length p.cap] 30)) := (Only.refl [] w).alloc _
  have hB : Blk (w.alloc (.cells #[.int .u32 p.src, .int .u32 p.dst, I64 p.proto, I64 p.ttl, I64 p.id, I64 p.off, .bool p.more, .slice p.A p.data.length p.cap] 30)) w.heap.size 30 p.cells := Blk.newA rfl
  show Calls Try.prog 4 #[.agg #[.int .u32 p.src, .int .u32 p.dst, I64 p.proto, I64 p.ttl, I64 p.id, I64 p.off, .bool p.more, .slice p.A p.data.length p.cap], .int .u8 (a : Int), .int .u8 (x : Int)] w _
  have HA := hide hA
  have HF := hide hf
  have HO := hide (And.intro hO hB)
  clear hA hf hO hB
  go_enter Try.func4, Try.ntmps4
  go_wp2_with fail
  refine (Encode_ok p _ HF.out hl (HA.out.only HO.out.1)).mono ?_
  rintro e w1 ⟨⟨v, rfl, hv⟩, ho⟩
  have h1 := hide (And.intro (Only.trans HO.out.1 ho) (ho.blk HO.out.2 (by simp)))
  have HV := hide hv
  have lt0 : w.heap.size < w1.heap.size := h1.out.2.lt
  have e0 := h1.out.2.cell (i := 0) rfl
  have e1 := h1.out.2.cell (i := 1) rfl
  have e2 := h1.out.2.cell (i := 2) rfl
  have e3 := h1.out.2.cell (i := 3) rfl
  have e4 := h1.out.2.cell (i := 4) rfl
  have e5 := h1.out.2.cell (i := 5) rfl
  have e6 := h1.out.2.cell (i := 6) rfl
  have e7 := h1.out.2.cell (i := 7) rfl
  clear ho HO hv
  go_wp2_with fail
  refine (large_ok p w1.heap.size _ hl (Blk.newA rfl)).mono ?_
  rintro e w2 ⟨rfl, ho⟩
  have H2 := hide (show Only [] w w2 from Only.trans (h1.out.1.alloc _) ho)
  have H2' := hide (show Only [] w1 w2 from Only.trans ((Only.refl [] w1).alloc _) ho)
  clear ho e0 e1 e2 e3 e4 e5 e6 e7
  by_cases dl : 5000 < p.data.length
  · rw [decide_eq_true dl]
    go_wp2_with fail
    refine (awake_ok _).mono ?_
    rintro e w3 ⟨rfl, ho⟩
    have H3 := hide (Only.trans H2.out ho)
    clear ho
    go_wp2
    go_ret
    exact ⟨rfl, H3.out⟩
  rw [decide_eq_false dl]
  by_cases hbad : p.bad
  · rw [Pkt.valid_bad hbad]
    clear hbad
    go_wp2_with fail
    refine (awake_ok _).mono ?_
    rintro e w3 ⟨rfl, ho⟩
    have H3 := hide (Only.trans H2.out ho)
    clear ho
    go_wp2
    go_ret
    exact ⟨rfl, H3.out⟩
  rw [Pkt.valid_good hbad]
  by_cases d0 : (x : Int) = 0
  · go_wp2_with fail
    refine (awake_ok _).mono ?_
    rintro e w3 ⟨rfl, ho⟩
    have H3 := hide (Only.trans H2.out ho)
    clear ho
    go_wp2
    go_ret
    exact ⟨rfl, H3.out⟩
  have HB := hide hbad
  have hv := HV.out
  rw [if_neg hbad] at hv
  obtain ⟨A1, c1, rfl, hn1, hc1⟩ := hv
  have hbl := p.bytes_len
  have hm1 : p.bytes.length ≤ 5020 := by omega
  have HN := hide hn1
  have HBL := hide hbl
  clear hn1 hbad HV hbl
  obtain ⟨n, hbn⟩ : ∃ n, p.bytes.length = n := ⟨_, rfl⟩
  have HBN := hide hbn
  rw [hbn] at hm1 hc1
  rw [hbn]
  have n20 : 20 ≤ n := by have := HBL.out; omega
  clear hbn
  go_wp2_with fail
  refine (clone_ok A1 p.bytes n c1 _ HBN.out (HN.out.only H2'.out) (by omega) (fun h0 => by have := HN.out.none h0; have := HBN.out; omega)).mono ?_
  rintro e w3 ⟨A2, c2, rfl, ho, hbb, -, hc2, hnw⟩
  have hg : ∃ g rest, A2 = some ⟨g, 0, none⟩ ∧ Blk w3 g 5 (bcells p.bytes ++ rest) := by
    rcases hbb with h0 | h0
    · have := HBN.out; rw [h0] at this; simp at this; omega
    · exact h0
  obtain ⟨g, rest, rfl, hG⟩ := hg
  have hgn : w2.heap.size ≤ g := by
    obtain ⟨g', he, hge⟩ := hnw (by omega)
    injection he with he
    injection he with he _
    omega
  have hgw : w.heap.size ≤ g := Nat.le_trans H2.out.size hgn
  clear hnw hgn
  have H3 := hide (And.intro (Only.trans H2.out ho) hG)
  clear ho hbb hG
  have hj : a % 20 < 20 := Nat.mod_lt _ (by omega)
  have hat : p.bytes[a % 20]? = some (hd p p.sum (a % 20)) := p.bytes_at hj
  have cg : w3.cell? ⟨g, a % 20, none⟩ = some (.int .u8 (hd p p.sum (a % 20) : Nat)) := H3.out.2.cell (by rw [List.getElem?_append_left (by rw [bcells_len]; have := HBN.out; omega)]; exact bcells_at hat)
  have fg := H3.out.2.frozen (a % 20)
  have ltg := H3.out.2.lt
  clear hat
  go_wp2_with fail
  have hxp : 0 < x := by omega
  have h8 : hd p p.sum (a % 20) ≤ 255 := hd_le HF.out HB.out p.sum_le _
  rw [u8_xor_nat _ _ (by omega) (by omega)]
  obtain ⟨y, hy⟩ : ∃ y, y = hd p p.sum (a % 20) ^^^ x := ⟨_, rfl⟩
  rw [← hy]
  have hy8 : y ≤ 255 := by
    have := Nat.xor_lt_two_pow (n := 8) (show hd p p.sum (a % 20) < 2 ^ 8 by omega) (show x < 2 ^ 8 by omega)
    omega
  have hyn : y ≠ hd p p.sum (a % 20) := by
    intro he
    have h0 : hd p p.sum (a % 20) ^^^ (hd p p.sum (a % 20) ^^^ x) = hd p p.sum (a % 20) ^^^ hd p p.sum (a % 20) := by rw [← hy, he]
    rw [← Nat.xor_assoc, Nat.xor_self, Nat.zero_xor] at h0
    omega
  have hst : Blk (w3.setCell ⟨g, a % 20, none⟩ (.int .u8 ((y : Nat) : Int))) g 5 (bcells (p.bytes.set (a % 20) y) ++ rest) := by
    refine Blk.to (H3.out.2.set _ _) ?_
    rw [List.set_append, if_pos (by rw [bcells_len]; have := HBN.out; omega)]
    congr 1
    simp [bcells, List.map_set]
  have hO4 : Only [] w (w3.setCell ⟨g, a % 20, none⟩ (.int .u8 ((y : Nat) : Int))) := H3.out.1.set (.inr hgw) _
  have hlen : (p.bytes.set (a % 20) y).length = n := by rw [List.length_set]; exact HBN.out
  have hle : ∀ z ∈ p.bytes.set (a % 20) y, z ≤ 255 := by
    intro z hz
    rcases List.mem_or_eq_of_mem_set hz with h | h
    · exact Pkt.bytes_le HF.out HB.out z h
    · omega
  refine (decode_refuse g 0 c2 n (p.bytes.set (a % 20) y) _ hlen n20 (by omega) hc2 hle (NumsIn.of_blk hst) (.inr (.inr (.inr (changed_refused HF.out HB.out hj hy8 hyn (fun k hk => hof_set p _ y hk)))))).mono ?_
  rintro e w4 ⟨⟨v, z, rfl, hz⟩, ho⟩
  have H4 := hide (Only.trans hO4 ho)
  have hzb : (z != 0) = true := by simp [hz]
  clear hz
  clear ho hO4 hst hlen hle hyn hy8 hy h8 cg fg ltg
  go_wp2_with fail
  refine (awake_ok _).mono ?_
  rintro e w5 ⟨rfl, ho⟩
  have H5 := hide (Only.trans H4.out ho)
  clear ho
  go_wp2
  go_ret
  exact ⟨rfl, H5.out⟩

end Go.Proofs.Ytlnejlhdkmneeaa
