/- MinFunc over the comparison; the entry of a full resolver. -/
import Derived.Test.YtlnejlhdkmneeaaManyB
namespace Go.Proofs.Ytlnejlhdkmneeaa
open Go.RowKit

set_option maxRecDepth 100000 in
set_option maxHeartbeats 4000000 in
theorem minFunc_ok (base q b m R g n c : Nat) (life clock : Int) (l : List Ent) (eb : Int → Nat) (vb : Int → Value) (w : World) (h : ResBox base q b m R life clock l eb vb w) (es : List Ent) (hes : ∀ x ∈ es, x ∈ l) (hn : es.length = n) (h0 : 0 < n) (hm : n ≤ 1000000)
    (hab : ∀ x ∈ l, 0 ≤ x.a ∧ x.a < 4294967296) (hc : ∀ (j : Nat) (x : Ent), es[j]? = some x → w.cell? ⟨g, j, none⟩ = some (.int .u32 x.a)) :
    Calls Try.prog 99 #[.slice (some ⟨g, 0, none⟩) n c, .func (.func 102) #[] #[.pointer (some ⟨R, 0, none⟩)]] w fun e w' => ∃ y, e = .returned (.int .u32 y.a) ∧ y ∈ es ∧ (∀ x ∈ es, ltE x y = false) ∧ Only [] w w' := by
  have H := hide h
  have HES := hide hes
  have HN := hide hn
  have HAB := hide hab
  have HC := hide (show ∀ (w' : World) (j : Nat) (x : Ent), Only [] w w' → es[j]? = some x → w'.cell? ⟨g, j, none⟩ = some (.int .u32 x.a) from fun w' j x ho hx => by
    rw [World.cell?_of_block (w := w) (ho.block g (World.block_lt_of_cell? _ _ (hc j x hx)) (by simp))]; exact hc j x hx)
  obtain ⟨x0, hx0⟩ : ∃ x, es[0]? = some x := ⟨_, List.getElem?_eq_getElem (by omega)⟩
  have c0 := hc 0 x0 hx0
  have HX0 := hide hx0
  clear h hes hn hab hc hx0
  go_enter Try.func99, Try.ntmps99
  go_wp2
  go_loopw [5, 6] (fun mm i wr => ∃ (k : Nat) (y : Ent), 1 ≤ k ∧ k ≤ n ∧ i = .int .i64 k ∧ mm = .int .u32 y.a ∧ Hid (Only [] w wr ∧ y ∈ es ∧ ∀ (j : Nat) (x : Ent), j < k → es[j]? = some x → ltE x y = false)) (fun _ i _ => n - (Go.RowKit.intOf i).toNat)
  case atStart => exact ⟨1, x0, Nat.le_refl _, h0, rfl, rfl, hide ⟨Only.refl _ _, List.mem_of_getElem? HX0.out, fun j x hj hx => by
    obtain rfl : j = 0 := by omega
    rw [HX0.out] at hx; injection hx with hx; subst hx
    rw [ltE_false]; omega⟩⟩
  case round =>
    obtain ⟨k, y, hk1, hk, rfl, rfl, HW⟩ := hrel
    rcases Nat.lt_or_ge k n with hlt | hge
    · obtain ⟨x, hx⟩ : ∃ x, es[k]? = some x := ⟨_, List.getElem?_eq_getElem (by rw [HN.out]; exact hlt)⟩
      have cx := HC.out wr k x HW.out.1 hx
      have HX := hide hx
      clear hx c0
      go_wp2_with fail
      refine (less_ok base q b m R life clock l eb vb _ (H.out.only HW.out.1) x y (HES.out x (List.mem_of_getElem? HX.out)) (HES.out y HW.out.2.1) (HAB.out _ (HES.out x (List.mem_of_getElem? HX.out))) (HAB.out _ (HES.out y HW.out.2.1))).mono ?_
      rintro e w1 ⟨rfl, ho⟩
      have HO := hide (Only.trans HW.out.1 ho)
      have cx1 := HC.out w1 k x HO.out HX.out
      clear ho cx
      by_cases hl : cmpE x y < 0
      · have hR : Hid (∀ (j : Nat) (z : Ent), j < k + 1 → es[j]? = some z → ltE z x = false) := hide fun j z hj hz => by
          have hxy := cmpE_lt.1 hl
          rcases Nat.lt_or_ge j k with h1 | h1
          · have := HW.out.2.2 j z h1 hz
            rw [ltE_false] at this ⊢; rw [ltE_true] at hxy; omega
          · obtain rfl : j = k := by omega
            rw [HX.out] at hz; injection hz with hz; subst hz
            rw [ltE_false]; omega
        go_wp2
        go_roundw
        case rel => exact ⟨k + 1, x, by omega, by omega, by go_num, rfl, hide ⟨HO.out, List.mem_of_getElem? HX.out, hR.out⟩⟩
        case measure => simp [Go.RowKit.intOf]; omega
      · have hR : Hid (∀ (j : Nat) (z : Ent), j < k + 1 → es[j]? = some z → ltE z y = false) := hide fun j z hj hz => by
          rcases Nat.lt_or_ge j k with h1 | h1
          · exact HW.out.2.2 j z h1 hz
          · obtain rfl : j = k := by omega
            rw [HX.out] at hz; injection hz with hz; subst hz
            cases hlt2 : ltE x y with
            | false => rfl
            | true => exact absurd (cmpE_lt.2 hlt2) hl
        go_wp2
        go_roundw
        case rel => exact ⟨k + 1, y, by omega, by omega, by go_num, rfl, hide ⟨HO.out, HW.out.2.1, hR.out⟩⟩
        case measure => simp [Go.RowKit.intOf]; omega
    · obtain rfl : k = n := by omega
      clear c0
      go_wp2
      go_ret
      exact ⟨y, rfl, HW.out.2.1, fun x hx => by
        obtain ⟨j, hj⟩ := List.getElem?_of_mem hx
        exact HW.out.2.2 j x (by rw [← HN.out]; exact (List.getElem?_eq_some_iff.1 hj).1) hj, HW.out.1⟩

end Go.Proofs.Ytlnejlhdkmneeaa
