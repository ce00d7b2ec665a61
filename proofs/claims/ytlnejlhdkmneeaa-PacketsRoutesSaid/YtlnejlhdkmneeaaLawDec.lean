/- PacketsDecode answers true. -/
import Derived.Test.YtlnejlhdkmneeaaDecC
namespace Go.Proofs.Ytlnejlhdkmneeaa
open Go.RowKit

/-- A packet, its data somewhere, and a code. -/
def DOut (P : Pkt) (cd : Int) (w : World) (e : Ending) (w' : World) : Prop := ∃ A c, e = .returned (.tuple #[(P.at A c).V, I64 cd]) ∧ NumsIn w' .u8 A P.data ∧ Only [] w w'
def zpk : Pkt := ⟨0, 0, 0, 0, 0, 0, false, none, 0, []⟩
theorem DOut.zero {cd : Int} {w w' : World} {e : Ending} (h : e = .returned (.tuple #[.agg zeroP.toArray, I64 cd]) ∧ Only [] w w') : DOut zpk cd w e w' :=
  ⟨none, 0, h.1, by intro k x hx; simp [zpk] at hx, h.2⟩
/-- What both answer for the same bytes. -/
def dpk (bs : List Nat) (n : Nat) : Pkt := if formBad bs n ∨ sumBad bs ∨ (decP bs none 0).bad then zpk else decP bs none 0
def dcd (bs : List Nat) (n : Nat) : Int := if formBad bs n then 12 else if sumBad bs then 6 else if (decP bs none 0).bad then 34 else 0
theorem AcceptedS.out {bs : List Nat} {n : Nat} {w w' : World} {e : Ending} (hf : ¬ formBad bs n) (hs : ¬ sumBad bs) (h : AcceptedS bs w e w') : DOut (dpk bs n) (dcd bs n) w e w' := by
  obtain ⟨ho, ⟨hb, rfl⟩ | ⟨hb, A, c, rfl, hN⟩⟩ := h
  · unfold dpk dcd
    rw [if_pos (.inr (.inr hb)), if_neg hf, if_neg hs, if_pos hb]
    exact DOut.zero ⟨rfl, ho⟩
  · unfold dpk dcd
    rw [if_neg (by rintro (h | h | h) <;> contradiction), if_neg hf, if_neg hs, if_neg hb]
    exact ⟨A, c, rfl, hN, ho⟩
theorem dpk_len (bs : List Nat) (n : Nat) : (dpk bs n).data.length ≤ bs.length := by
  unfold dpk; split
  · simp [zpk]
  · simp [decP]

theorem decode_out (A : Option Addr) (n c : Nat) (bs : List Nat) (w : World) (hn : bs.length = n) (hmax : n ≤ 100000) (hnc : n ≤ c) (h8 : ∀ x ∈ bs, x ≤ 255) (hA : NumsIn w .u8 A bs) :
    Calls Try.prog 20 #[.slice A n c] w (fun e w' => DOut (dpk bs n) (dcd bs n) w e w') ∧ Calls Try.prog 30 #[.slice A n c] w (fun e w' => DOut (dpk bs n) (dcd bs n) w e w') := by
  by_cases hs : n < 20
  · have hf : formBad bs n := .inl hs
    have e1 : dpk bs n = zpk := by unfold dpk; rw [if_pos (.inl hf)]
    have e2 : dcd bs n = 12 := by unfold dcd; rw [if_pos hf]
    rw [e1, e2]
    exact ⟨(decode_short A n c w hs).mono fun _ _ h => DOut.zero h, (rdecode_short A n c w hs).mono fun _ _ h => DOut.zero h⟩
  obtain ⟨x, hx⟩ : ∃ x, bs[0]? = some x := ⟨_, List.getElem?_eq_getElem (by omega)⟩
  obtain ⟨b, o, rfl, _⟩ := hA 0 x hx
  by_cases hm : formBad bs n ∨ sumBad bs
  · have e1 : dpk bs n = zpk := by unfold dpk; rw [if_pos (by rcases hm with h | h; exact .inl h; exact .inr (.inl h))]
    have e2 : dcd bs n = dcode bs n := by
      unfold dcd dcode
      by_cases hf : formBad bs n
      · rw [if_pos hf, if_pos hf]
      · rw [if_neg hf, if_neg hf]
        rcases hm with h | h
        · exact absurd h hf
        · rw [if_pos h, if_pos h]
    rw [e1, e2]
    have hmis : hof bs 0 ≠ 4 ∨ 1 < hof bs 3 ∨ hof bs 4 * 256 + hof bs 5 + 20 ≠ n ∨ hof bs 10 * 256 + hof bs 11 ≠ 65535 - sumw (hwords (hof bs)) := by
      unfold formBad sumBad at hm
      rcases hm with (h | h | h | h) | h
      · omega
      · exact .inl h
      · exact .inr (.inl h)
      · exact .inr (.inr (.inl h))
      · exact .inr (.inr (.inr h))
    exact ⟨(decode_refuseX b o c n bs w hn (by omega) hmax hnc h8 hA hmis).mono fun _ _ h => DOut.zero h, (rdecode_refuseX b o c n bs w hn (by omega) hmax hnc h8 hA hmis).mono fun _ _ h => DOut.zero h⟩
  · have hf : ¬ formBad bs n := fun h => hm (.inl h)
    have hsb : ¬ sumBad bs := fun h => hm (.inr h)
    have hok : hof bs 0 = 4 ∧ hof bs 3 ≤ 1 ∧ hof bs 4 * 256 + hof bs 5 + 20 = n ∧ hof bs 10 * 256 + hof bs 11 = 65535 - sumw (hwords (hof bs)) := by
      unfold formBad at hf; unfold sumBad at hsb; omega
    exact ⟨(decode_accept b o c n bs w hn (by omega) hmax hnc h8 hA hok).mono fun _ _ h => h.out hf hsb, (rdecode_accept b o c n bs w hn (by omega) hmax hnc h8 hA hok).mono fun _ _ h => h.out hf hsb⟩

set_option maxRecDepth 100000 in
set_option maxHeartbeats 8000000 in
theorem lawdec (A : Option Addr) (n c : Nat) (P : Pkt) (cd : Int) (w : World) (hm : n ≤ 5000) (hP : P.data.length ≤ 5000)
    (h1 : ∀ W, Only [] w W → Calls Try.prog 20 #[.slice A n c] W (fun e w' => DOut P cd W e w')) (h2 : ∀ W, Only [] w W → Calls Try.prog 30 #[.slice A n c] W (fun e w' => DOut P cd W e w')) :
    Calls Try.prog 7 #[.slice A n c] w fun e w' => e = .returned (.bool true) ∧ Only [] w w' := by
  have HH1 := hide h1
  have HH2 := hide h2
  clear h1 h2
  go_enter Try.func7, Try.ntmps7
  go_wp2_with fail
  refine (HH1.out _ (Only.refl [] w)).mono ?_
  rintro e w1 ⟨A1, c1, rfl, hN1, ho1⟩
  have hal1 : Only [] w1 (w1.alloc (.cells #[.int .u32 P.src, .int .u32 P.dst, I64 P.proto, I64 P.ttl, I64 P.id, I64 P.off, .bool P.more, .slice A1 P.data.length c1] 30)) := (Only.refl [] w1).alloc _
  have H1 := hide (show _ ∧ _ ∧ Blk _ w1.heap.size 30 [.int .u32 P.src, .int .u32 P.dst, I64 P.proto, I64 P.ttl, I64 P.id, I64 P.off, .bool P.more, .slice A1 P.data.length c1] from ⟨Only.trans ho1 hal1, hN1.only hal1, Blk.newA rfl⟩)
  clear hal1 hN1 ho1
  go_wp2_with fail
  refine (HH2.out _ H1.out.1).mono ?_
  rintro e w2 ⟨A2, c2, rfl, hN2, ho2⟩
  have h2 := ho2.blk H1.out.2.2 (by simp)
  have hal2 : Only [] w2 (w2.alloc (.cells #[.int .u32 P.src, .int .u32 P.dst, I64 P.proto, I64 P.ttl, I64 P.id, I64 P.off, .bool P.more, .slice A2 P.data.length c2] 45)) := (Only.refl [] w2).alloc _
  have e0 := h2.cell (i := 0) rfl
  have e1 := h2.cell (i := 1) rfl
  have e2 := h2.cell (i := 2) rfl
  have e3 := h2.cell (i := 3) rfl
  have e4 := h2.cell (i := 4) rfl
  have e5 := h2.cell (i := 5) rfl
  have e6 := h2.cell (i := 6) rfl
  have e7 := h2.cell (i := 7) rfl
  have lt2 := h2.lt
  have H2 := hide (show _ ∧ _ ∧ _ from ⟨Only.trans H1.out.1 (Only.trans ho2 hal2), H1.out.2.1.only (Only.trans ho2 hal2), hN2.only hal2⟩)
  clear hal2 hN2 ho2 h2 H1
  go_wp2_with fail
  refine (same_true (P.at A1 c1) A2 c2 _ (by show P.data.length ≤ maxLen; unfold maxLen; omega) H2.out.2.1 H2.out.2.2).mono ?_
  rintro e w3 ⟨rfl, ho3⟩
  have H3 := hide (Only.trans H2.out.1 ho3)
  clear ho3 e0 e1 e2 e3 e4 e5 e6 e7 lt2
  go_wp2_with fail
  refine (awake_ok _).mono ?_
  rintro e w4 ⟨rfl, ho4⟩
  have H4 := hide (Only.trans H3.out ho4)
  clear ho4
  go_wp2
  go_ret
  exact ⟨rfl, H4.out⟩

set_option maxHeartbeats 2000000 in
theorem decode_law (A : Option Addr) (n c : Nat) (bs : List Nat) (w : World) (hn : bs.length = n) (hm : n ≤ maxLen) (hnc : n ≤ c) (h8 : ∀ x ∈ bs, x ≤ 255) (hA : NumsIn w .u8 A bs) :
    Calls Try.prog 7 #[.slice A n c] w fun e w' => e = .returned (.bool true) ∧ Only [] w w' := by
  by_cases hbig : 5000 < n
  · unfold maxLen at hm
    clear hA hn h8
    go_enter Try.func7, Try.ntmps7
    go_wp2_with fail
    refine (awake_ok _).mono ?_
    rintro e w4 ⟨rfl, ho4⟩
    have H4 := hide ho4
    clear ho4
    go_wp2
    go_ret
    exact ⟨rfl, H4.out⟩
  · exact lawdec A n c (dpk bs n) (dcd bs n) w (by omega) (by have := dpk_len bs n; omega) (fun W hW => (decode_out A n c bs W hn (by omega) hnc h8 (hA.only hW)).1) (fun W hW => (decode_out A n c bs W hn (by omega) hnc h8 (hA.only hW)).2)

end Go.Proofs.Ytlnejlhdkmneeaa
