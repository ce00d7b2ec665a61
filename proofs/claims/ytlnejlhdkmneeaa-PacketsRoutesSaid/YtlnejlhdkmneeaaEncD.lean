/- PacketsEncode: what Decode makes of a packet's bytes; the reference's Encode where it refuses. -/
import Derived.Test.YtlnejlhdkmneeaaEncC
import Derived.Test.YtlnejlhdkmneeaaLawChanged
import Derived.Test.YtlnejlhdkmneeaaRefF
namespace Go.Proofs.Ytlnejlhdkmneeaa
open Go.RowKit

theorem hof_bytes (p : Pkt) {k : Nat} (hk : k < 20) : hof p.bytes k = hd p p.sum k := by
  unfold hof; rw [List.getD_eq_getElem?_getD, p.bytes_at hk]; rfl
theorem bytes_head (p : Pkt) (hl : p.data.length ≤ 65535) : hof p.bytes 0 = 4 ∧ hof p.bytes 3 ≤ 1 ∧ hof p.bytes 4 * 256 + hof p.bytes 5 + 20 = p.bytes.length ∧ hof p.bytes 10 * 256 + hof p.bytes 11 = 65535 - sumw (hwords (hof p.bytes)) := by
  have hs := p.sum_le
  have e1 : hwords (hof p.bytes) = hwords (hd p 0) := hwords_congr fun k hk h1 h2 => by
    rw [hof_bytes p hk]; unfold hd; split <;> first | rfl | (exfalso; omega)
  rw [e1, hof_bytes p (by omega), hof_bytes p (by omega), hof_bytes p (by omega), hof_bytes p (by omega), hof_bytes p (by omega), hof_bytes p (by omega), p.bytes_len]
  refine ⟨rfl, ?_, ?_, ?_⟩
  · show (if p.more then 1 else 0) ≤ 1; split <;> omega
  · show p.data.length / 256 * 256 + p.data.length % 256 + 20 = 20 + p.data.length; omega
  · show p.sum / 256 * 256 + p.sum % 256 = p.sum; omega
theorem decP_bytes (p : Pkt) (hf : p.Fit) (hb : ¬ p.bad) (A : Option Addr) (c : Nat) : decP p.bytes A c = p.at A c := by
  have g0 := hf.src0
  have g1 := hf.src1
  have g2 := hf.dst0
  have g3 := hf.dst1
  have hb1 : 0 ≤ p.proto ∧ 0 ≤ p.ttl ∧ 0 ≤ p.id ∧ p.id ≤ 65535 ∧ 0 ≤ p.off ∧ p.off ≤ 65528 := by unfold Pkt.bad at hb; omega
  have hd' : p.bytes.drop 20 = p.data := by unfold Pkt.bytes; rw [List.drop_append_of_le_length (by simp), List.drop_of_length_le (by simp)]; rfl
  unfold decP Pkt.at gv
  rw [hof_bytes p (by omega), hof_bytes p (by omega), hof_bytes p (by omega), hof_bytes p (by omega), hof_bytes p (by omega), hof_bytes p (by omega), hof_bytes p (by omega), hof_bytes p (by omega), hof_bytes p (by omega), hof_bytes p (by omega), hof_bytes p (by omega), hof_bytes p (by omega), hof_bytes p (by omega), hof_bytes p (by omega), hof_bytes p (by omega), hd']
  simp only [hd, Pkt.mk.injEq, and_true, Nat.reduceAdd, if_true, if_false, Nat.reduceEqDiff]
  refine ⟨by omega, by omega, by omega, by omega, by omega, by omega, ?_⟩
  rw [hof_bytes p (by omega)]
  simp only [hd]
  cases p.more <;> simp

set_option maxRecDepth 100000 in
set_option maxHeartbeats 8000000 in
theorem refEncode_bad (p : Pkt) (w : World) (hb : p.bad) (hl : p.data.length ≤ maxLen) :
    Calls Try.prog 26 #[p.V] w fun e w' => e = .returned (.tuple #[.slice none 0 0, I64 34]) ∧ Only [] w w' := by
  have hO : Only [] w (w.alloc (.cells #[.int .u32 p.src, .int .u32 p.dst, I64 p.proto, I64 p.ttl, I64 p.id, I64 p.off, .bool p.more, .slice p.A p.data.length p.cap] 45)) := (Only.refl [] w).alloc _
  have hB : Blk (w.alloc (.cells #[.int .u32 p.src, .int .u32 p.dst, I64 p.proto, I64 p.ttl, I64 p.id, I64 p.off, .bool p.more, .slice p.A p.data.length p.cap] 45)) w.heap.size 45 [.int .u32 p.src, .int .u32 p.dst, I64 p.proto, I64 p.ttl, I64 p.id, I64 p.off, .bool p.more, .slice p.A p.data.length p.cap] := Blk.newA rfl
  show Calls Try.prog 26 #[.agg #[.int .u32 p.src, .int .u32 p.dst, I64 p.proto, I64 p.ttl, I64 p.id, I64 p.off, .bool p.more, .slice p.A p.data.length p.cap]] w _
  have HO := hide (And.intro hO hB)
  have HBD := hide hb
  clear hO hB hb
  go_enter Try.func26, Try.ntmps26
  go_wp2_with fail
  refine (refValid_ok p _ hl).mono ?_
  rintro e w1 ⟨rfl, ho⟩
  rw [Pkt.valid_bad HBD.out]
  have H1 := hide (Only.trans HO.out.1 ho)
  clear ho
  go_wp2
  go_ret2
  exact ⟨rfl, H1.out⟩

end Go.Proofs.Ytlnejlhdkmneeaa
