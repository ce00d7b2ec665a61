/- Replenishments: the pending replenishments in new memory. -/
import Derived.Test.YtdjkgbkckmjfiaaSlices
namespace Go.Proofs.Ytdjkgbkckmjfiaa
open Go.RowKit

theorem clip_ok (A : Option Addr) (n c : Nat) (w : World) (h : n ≤ c) (hm : c ≤ maxLen) (h0 : n = 0 → A = none) :
    Calls Try.prog 28 #[.slice A n c] w fun e w' => e = .returned (.slice A n n) ∧ w = w' := by
  unfold maxLen at hm
  rcases Nat.eq_zero_or_pos n with hn | hn
  · have hA := h0 hn
    subst hA
    subst hn
    go_enter Try.func28, Try.ntmps28
    go_wp2
    go_ret
    exact ⟨by simp, rfl⟩
  · clear h0
    go_enter Try.func28, Try.ntmps28
    go_wp2
    go_ret
    exact ⟨by simp, rfl⟩

def repCells (l : List (Int × Int)) : List Value := bufCells l
theorem bufCells_len (l : List (Int × Int)) : (bufCells l).length = l.length * 2 := by
  induction l with
  | nil => rfl
  | cons x l ih => show (I64 x.1 :: I64 x.2 :: bufCells l).length = _; simp [ih]; omega
theorem bufCells_append (l k : List (Int × Int)) : bufCells (l ++ k) = bufCells l ++ bufCells k := by simp [bufCells]

/-- What the first k rounds have collected. -/
def RepRel (w : World) (b g bs : Nat) (s : Srv) (k : Nat) (v : Value) (wr : World) : Prop :=
  SrvIs wr b g bs s ∧ wr.ownsRow w.heap.size 38 2 v k (bufCells (s.list.take k)) ∧ Only [] w wr ∧ (k = 0 → v = .slice none 0 0)

theorem own_apart {w : World} {base : Nat} {e : TypeId} {size n : Nat} {v : Value} {xs : List Value} (h : w.ownsRow base e size v n xs) {g : Nat} (hg : g < base) : v.ownBlock ≠ some g := fun e => by have := (h.lt g e).1; omega

set_option maxHeartbeats 1000000 in
theorem rep_ok (b g bs : Nat) (s : Srv) (w : World) (hs : SrvIs w b g bs s) (hI : s.Inv) (hb0 : b < w.heap.size) (hg0 : g < w.heap.size) (hbs0 : bs < w.heap.size) :
    Calls Try.prog 12 #[.pointer (some ⟨b, 0, none⟩)] w
      fun e w' => ∃ A, e = .returned (.slice A s.list.length s.list.length) ∧ SrvIs w' b g bs s ∧ Only [] w w' ∧
        (∀ k x, s.list[k]? = some x → ∃ q, A = some ⟨q, 0, none⟩ ∧ w.heap.size ≤ q ∧ w'.cell? ⟨q, k * 2, none⟩ = some (I64 x.1) ∧ w'.cell? ⟨q, k * 2 + 1, none⟩ = some (I64 x.2)) := by
  obtain ⟨i0, hi0, hz0, hs0, hb0'⟩ := info_parts rep_info
  have hst := hide (show RepRel w b g bs s 0 (.slice none 0 0) w from ⟨hs, by simpa [bufCells] using World.ownsRow_nil w w.heap.size _ 2, Only.refl _ _, fun _ => rfl⟩)
  have hN := hI.prm.2.2.2.2.2.1
  have hlen := hI.len
  have HS := hide hs
  obtain ⟨fr, buf, me, bufb, box, ring⟩ := hs
  have c7 := me.cell (i := 7) rfl
  go_enter Try.func12, Try.ntmps12
  go_wp2
  go_loopw [3, 12] (fun v i wr => ∃ k : Nat, k ≤ s.list.length ∧ i = .int .i64 k ∧ RepRel w b g bs s k v wr) (fun _ i _ => s.list.length - (intOf i).toNat)
  case atStart => exact ⟨0, Nat.zero_le _, rfl, hst.out⟩
  case round =>
    obtain ⟨k, hk, rfl, hsr, hown, hor, hnil⟩ := hrel
    clear hst me bufb box ring c7
    rcases Nat.lt_or_ge k s.list.length with hlt | hge
    · obtain ⟨x, hx⟩ : ∃ x, s.list[k]? = some x := ⟨_, List.getElem?_eq_getElem hlt⟩
      have htk := hide (show bufCells (s.list.take (k + 1)) = bufCells (s.list.take k) ++ [I64 x.1, I64 x.2] by
        rw [List.take_add_one, hx, bufCells_append]; rfl)
      have HSR := hide hsr
      obtain ⟨fr1, buf1, me1, bufb1, box1, ring1⟩ := hsr
      have d5 := me1.cell (i := 5) rfl
      have d6 := me1.cell (i := 6) rfl
      have hfr := ring1.from_
      have hy := ring1.at_ k hlt
      rw [hx] at hy
      have q0 := bufb1.cell (bufCells_at buf1 _ x hy).1
      have q1 := bufb1.cell (bufCells_at buf1 _ x hy).2
      have HX := hide hx
      clear hx hy hnil
      go_wp2_with fail
      refine (at_ok b 5 g s.p.N fr1 k _ d5 d6 hfr (by omega) (by omega) hN).mono ?_
      rintro e w1 ⟨rfl, n1, rfl⟩
      rw [show ((k : Int)).toNat = k from Int.toNat_natCast k]
      have hownd : (wr.drewN n1).ownsRow w.heap.size 38 2 u3 k (bufCells (s.list.take k)) := hown
      go_wp2_with (at_builtin; refine wpList_append_own _ rfl (.tmp 15) (.tmp 23) 35 rfl w.heap.size 38 i0 (.agg #[.int .i64 0, .int .i64 0]) 2 16 Try.underlying35 hi0 hz0 hs0 hb0' rfl (by decide) _ _ _ rfl (hownd.alloc _) ⟨wr.heap.size, 0, none⟩ 1 1 [I64 x.1, I64 x.2] rfl rfl ?_ ?_ ?_ ?_ ?_ ?_)
      · exact fun j u hu => cells_new (wr.drewN n1) [I64 x.1, I64 x.2] _ rfl j u hu
      · simp [Value.oneCell']
      · unfold maxLen; omega
      · omega
      · have := hor.size; simp; omega
      intro v' w3 hown3 hgrow hnn
      have hor3 := ((hor.drewN n1).alloc (Obj.cells #[I64 x.1, I64 x.2] 38)).grown hgrow (fun q hq => (hown.lt q hq).1)
      have hs3 := ((HSR.out.drewN n1).alloc (Obj.cells #[I64 x.1, I64 x.2] 38)).grown hgrow (fun q hq => by
        have := (hown.lt q hq).1
        omega)
      clear hgrow
      go_wp2
      go_roundw
      case rel =>
        refine ⟨k + 1, by omega, by go_num, hs3, ?_, hor3, fun h => by omega⟩
        rw [htk.out]
        exact hown3
      case measure => simp [intOf]; omega
    · obtain rfl : k = s.list.length := by omega
      rw [List.take_length] at hown
      have hA : ∃ A c, u3 = .slice A s.list.length c ∧ s.list.length ≤ c ∧ c ≤ maxLen ∧ (s.list.length = 0 → A = none) ∧
          (∀ k x, s.list[k]? = some x → ∃ q, A = some ⟨q, 0, none⟩ ∧ w.heap.size ≤ q ∧ wr.cell? ⟨q, k * 2, none⟩ = some (I64 x.1) ∧ wr.cell? ⟨q, k * 2 + 1, none⟩ = some (I64 x.2)) := by
        rcases hown.2 with ⟨rfl, hn⟩ | ⟨q, cap, cur, rfl, hq, hh, hnc, hcm, hsz, htk⟩
        · refine ⟨none, 0, by rw [hn], by omega, by simp [maxLen], fun _ => rfl, fun k x hx => ?_⟩
          have := (List.getElem?_eq_some_iff.1 hx).1
          omega
        · refine ⟨_, cap, rfl, hnc, hcm, fun h0 => (by have := hnil h0; cases this), fun k x hx => ⟨q, rfl, hq, ?_, ?_⟩⟩
          all_goals
            have hlt := (List.getElem?_eq_some_iff.1 hx).1
            simp only [World.cell?, hh]
          · have h1 := (bufCells_at s.list k x hx).1
            rw [← htk, List.getElem?_take, if_pos (by omega)] at h1
            simpa using h1
          · have h1 := (bufCells_at s.list k x hx).2
            rw [← htk, List.getElem?_take, if_pos (by omega)] at h1
            simpa using h1
      obtain ⟨A, c, rfl, hc1, hc2, hc3, hcells⟩ := hA
      clear hown hnil
      have HC := hide hcells
      clear hcells
      go_wp2_with fail
      refine (clip_ok A s.list.length c wr hc1 hc2 hc3).mono ?_
      rintro e w1 ⟨rfl, rfl⟩
      go_wp2
      go_ret
      exact ⟨A, rfl, hsr, hor, HC.out⟩

end Go.Proofs.Ytdjkgbkckmjfiaa
