/- Fragment where the packet goes whole. -/
import Derived.Test.YtlnejlhdkmneeaaRefD
import Derived.Test.YtlnejlhdkmneeaaRefC
namespace Go.Proofs.Ytlnejlhdkmneeaa
open Go.RowKit

set_option maxRecDepth 100000 in
set_option maxHeartbeats 4000000 in
theorem frag_one (p : Pkt) (lim : Int) (w : World) (hl : p.data.length ≤ 1000000) (hb : ¬ p.bad) (h28 : 28 ≤ lim) (hlm : lim ≤ 9223372036854775807) (hle : (p.data.length : Int) ≤ lim - 20) (hA : NumsIn w .u8 p.A p.data) (hA0 : p.A = none → p.data.length = 0 ∧ p.cap = 0) :
    Calls Try.prog 21 #[p.V, I64 lim] w fun e w' => FragOut 30 (fun _ => p) 1 w e w' := by
  have hO : Only [] w (w.alloc (.cells #[.int .u32 p.src, .int .u32 p.dst, I64 p.proto, I64 p.ttl, I64 p.id, I64 p.off, .bool p.more, .slice p.A p.data.length p.cap] 30)) := (Only.refl [] w).alloc _
  have hB : Blk (w.alloc (.cells #[.int .u32 p.src, .int .u32 p.dst, I64 p.proto, I64 p.ttl, I64 p.id, I64 p.off, .bool p.more, .slice p.A p.data.length p.cap] 30)) w.heap.size 30 [.int .u32 p.src, .int .u32 p.dst, I64 p.proto, I64 p.ttl, I64 p.id, I64 p.off, .bool p.more, .slice p.A p.data.length p.cap] := Blk.newA rfl
  show Calls Try.prog 21 #[.agg #[.int .u32 p.src, .int .u32 p.dst, I64 p.proto, I64 p.ttl, I64 p.id, I64 p.off, .bool p.more, .slice p.A p.data.length p.cap], I64 lim] w _
  have HA := hide hA
  have HO := hide (And.intro hO hB)
  have H0 := hide hA0
  have HBD := hide hb
  clear hO hB hA hA0 hb
  go_enter Try.func21, Try.ntmps21
  go_wp2_with fail
  refine (Valid_ok p _ (by unfold maxLen; omega)).mono ?_
  rintro e w1 ⟨rfl, ho⟩
  rw [Pkt.valid_good HBD.out]
  have hq := ho.blk HO.out.2 (by simp)
  have e0 := hq.cell (i := 0) rfl
  have e1 := hq.cell (i := 1) rfl
  have e2 := hq.cell (i := 2) rfl
  have e3 := hq.cell (i := 3) rfl
  have e4 := hq.cell (i := 4) rfl
  have e5 := hq.cell (i := 5) rfl
  have e6 := hq.cell (i := 6) rfl
  have e7 := hq.cell (i := 7) rfl
  have ltq := hq.lt
  have H1 := hide (Only.trans HO.out.1 ho)
  clear hq ho HO
  go_wp2_with fail
  refine (pclone_ok p _ (HA.out.only H1.out) hl H0.out).mono ?_
  rintro e w2 ⟨A', c', rfl, ho2, hn⟩
  have hbk : Blk (w2.alloc (.cells #[.int .u32 p.src, .int .u32 p.dst, I64 p.proto, I64 p.ttl, I64 p.id, I64 p.off, .bool p.more, .slice A' p.data.length c'] 30)) w2.heap.size 30 [.int .u32 p.src, .int .u32 p.dst, I64 p.proto, I64 p.ttl, I64 p.id, I64 p.off, .bool p.more, .slice A' p.data.length c'] := Blk.newA rfl
  have hon : Only [] w2 (w2.alloc (.cells #[.int .u32 p.src, .int .u32 p.dst, I64 p.proto, I64 p.ttl, I64 p.id, I64 p.off, .bool p.more, .slice A' p.data.length c'] 30)) := (Only.refl [] w2).alloc _
  have H2 := hide (show _ ∧ _ ∧ _ from ⟨Only.trans (Only.trans H1.out ho2) hon, hbk, hn.only hon⟩)
  clear ho2 hn hbk hon e0 e1 e2 e3 e4 e5 e6 e7 ltq
  go_wp2
  go_ret2
  exact ⟨w2.heap.size, 1, [p.at A' c'], [], rfl, Blk.to H2.out.2.1 (by rfl), fun k hk => ⟨A', c', by rw [show k = 0 by omega]; rfl, H2.out.2.2⟩, H2.out.1⟩

set_option maxRecDepth 100000 in
set_option maxHeartbeats 4000000 in
theorem refFrag_one (p : Pkt) (lim : Int) (w : World) (hl : p.data.length ≤ 1000000) (hb : ¬ p.bad) (h28 : 28 ≤ lim) (hlm : lim ≤ 9223372036854775807) (hle : (p.data.length : Int) ≤ lim - 20) (hA : NumsIn w .u8 p.A p.data) (hA0 : p.A = none → p.data.length = 0 ∧ p.cap = 0) :
    Calls Try.prog 22 #[p.V, I64 lim] w fun e w' => FragOut 45 (fun _ => p) 1 w e w' := by
  have hO : Only [] w (w.alloc (.cells #[.int .u32 p.src, .int .u32 p.dst, I64 p.proto, I64 p.ttl, I64 p.id, I64 p.off, .bool p.more, .slice p.A p.data.length p.cap] 45)) := (Only.refl [] w).alloc _
  have hB : Blk (w.alloc (.cells #[.int .u32 p.src, .int .u32 p.dst, I64 p.proto, I64 p.ttl, I64 p.id, I64 p.off, .bool p.more, .slice p.A p.data.length p.cap] 45)) w.heap.size 45 [.int .u32 p.src, .int .u32 p.dst, I64 p.proto, I64 p.ttl, I64 p.id, I64 p.off, .bool p.more, .slice p.A p.data.length p.cap] := Blk.newA rfl
  show Calls Try.prog 22 #[.agg #[.int .u32 p.src, .int .u32 p.dst, I64 p.proto, I64 p.ttl, I64 p.id, I64 p.off, .bool p.more, .slice p.A p.data.length p.cap], I64 lim] w _
  have HA := hide hA
  have HO := hide (And.intro hO hB)
  have H0 := hide hA0
  have HBD := hide hb
  have hle2 : 20 + (p.data.length : Int) ≤ lim := by omega
  clear hO hB hA hA0 hb hle
  go_enter Try.func22, Try.ntmps22
  go_wp2_with fail
  refine (refValid_ok p _ (by unfold maxLen; omega)).mono ?_
  rintro e w1 ⟨rfl, ho⟩
  rw [Pkt.valid_good HBD.out]
  have hq := ho.blk HO.out.2 (by simp)
  have e0 := hq.cell (i := 0) rfl
  have e1 := hq.cell (i := 1) rfl
  have e2 := hq.cell (i := 2) rfl
  have e3 := hq.cell (i := 3) rfl
  have e4 := hq.cell (i := 4) rfl
  have e5 := hq.cell (i := 5) rfl
  have e6 := hq.cell (i := 6) rfl
  have e7 := hq.cell (i := 7) rfl
  have ltq := hq.lt
  have hO2 : Only [] w1 ((w1.alloc (.cells #[.int .u32 p.src, .int .u32 p.dst, I64 p.proto, I64 p.ttl, I64 p.id, I64 p.off, .bool p.more, .slice p.A p.data.length p.cap] 45)).alloc (.cells #[] 5)) := ((Only.refl [] w1).alloc _).alloc _
  have hB2 : Blk ((w1.alloc (.cells #[.int .u32 p.src, .int .u32 p.dst, I64 p.proto, I64 p.ttl, I64 p.id, I64 p.off, .bool p.more, .slice p.A p.data.length p.cap] 45)).alloc (.cells #[] 5)) w1.heap.size 45 [.int .u32 p.src, .int .u32 p.dst, I64 p.proto, I64 p.ttl, I64 p.id, I64 p.off, .bool p.more, .slice p.A p.data.length p.cap] := (Blk.newA rfl).alloc _
  have hB3 : Blk ((w1.alloc (.cells #[.int .u32 p.src, .int .u32 p.dst, I64 p.proto, I64 p.ttl, I64 p.id, I64 p.off, .bool p.more, .slice p.A p.data.length p.cap] 45)).alloc (.cells #[] 5)) (w1.heap.size + 1) 5 (bcells []) := Blk.newA (by simp)
  have H1 := hide (Only.trans HO.out.1 ho)
  obtain ⟨A', c', W5, hr, q1, q2, q3', hcc⟩ := append_full ((w1.alloc (.cells #[.int .u32 p.src, .int .u32 p.dst, I64 p.proto, I64 p.ttl, I64 p.id, I64 p.off, .bool p.more, .slice p.A p.data.length p.cap] 45)).alloc (.cells #[] 5)) (w1.heap.size + 1) 0 5 [] hB3 rfl p.A p.data p.data.length p.cap rfl (HA.out.only (Only.trans H1.out hO2)) (by omega) (fun h => (H0.out h).1)
  rw [Nat.zero_add] at hr
  have hbb : BytesBlk W5 (some A') p.data := by
    rcases Nat.eq_zero_or_pos p.data.length with h0 | h0
    · exact .inl (List.length_eq_zero_iff.1 h0)
    · obtain ⟨g, rest, h4, h5, _⟩ := q3' h0
      exact .inr ⟨g, rest, by rw [h4], by simpa using h5⟩
  have hb5 := q1.blk hB2 (by simp)
  have HR := hide hr
  have f0 := hb5.cell (i := 0) rfl
  have f1 := hb5.cell (i := 1) rfl
  have f2 := hb5.cell (i := 2) rfl
  have f3 := hb5.cell (i := 3) rfl
  have f4 := hb5.cell (i := 4) rfl
  have f5 := hb5.cell (i := 5) rfl
  have f6 := hb5.cell (i := 6) rfl
  have f7 := hb5.cell (i := 7) rfl
  have z7 := hb5.frozen 7
  have lt5 := hb5.lt
  have hO6 : Only [w1.heap.size] W5 (W5.setCell ⟨w1.heap.size, 7, none⟩ (.slice (some A') p.data.length c')) := (Only.refl [w1.heap.size] W5).set (.inl (by simp)) _
  have hbb6 : BytesBlk (W5.setCell ⟨w1.heap.size, 7, none⟩ (.slice (some A') p.data.length c')) (some A') p.data := hbb.onlyT (OnlyT.of_only (Ts := [45]) (base := 0) hO6 (fun j hj _ => ⟨Nat.zero_le _, by simp at hj; subst hj; exact hb5.hasT (by simp)⟩)) (by decide)
  have hon : Only [] (W5.setCell ⟨w1.heap.size, 7, none⟩ (.slice (some A') p.data.length c')) ((W5.setCell ⟨w1.heap.size, 7, none⟩ (.slice (some A') p.data.length c')).alloc (.cells #[.int .u32 p.src, .int .u32 p.dst, I64 p.proto, I64 p.ttl, I64 p.id, I64 p.off, .bool p.more, .slice (some A') p.data.length c'] 45)) := (Only.refl [] _).alloc _
  have hbk : Blk ((W5.setCell ⟨w1.heap.size, 7, none⟩ (.slice (some A') p.data.length c')).alloc (.cells #[.int .u32 p.src, .int .u32 p.dst, I64 p.proto, I64 p.ttl, I64 p.id, I64 p.off, .bool p.more, .slice (some A') p.data.length c'] 45)) W5.heap.size 45 [.int .u32 p.src, .int .u32 p.dst, I64 p.proto, I64 p.ttl, I64 p.id, I64 p.off, .bool p.more, .slice (some A') p.data.length c'] := Blk.newA (by simp [World.setCell])
  have H2 := hide (show _ ∧ _ ∧ _ from ⟨Only.trans (((Only.trans H1.out hO2).trans q1).trans' hO6 (by intro j hj hj2; have := H1.out.size; simp at hj; omega)) hon, hbk, hbb6.nums.only hon⟩)
  clear hq ho HO hO2 hB2 hB3 hr q1 q2 q3' hcc hbb hb5 hO6 hbb6 hon hbk
  go_wp2_with (at_builtin; refine wpList_append_eq rfl (.tmp 26) (.tmp 28) 28 rfl _ _ _ rfl rfl HR.out ?_)
  go_ret2
  exact ⟨W5.heap.size, 1, [p.at (some A') c'], [], rfl, Blk.to H2.out.2.1 (by rfl), fun k hk => ⟨some A', c', by rw [show k = 0 by omega]; rfl, H2.out.2.2⟩, H2.out.1⟩

end Go.Proofs.Ytlnejlhdkmneeaa
