/- The reference's Replenishments; nil. -/
import Derived.Test.YtdjkgbkckmjfiaaRefG
namespace Go.Proofs.Ytdjkgbkckmjfiaa
open Go.RowKit

theorem RefIs.only {w w' : World} {base rb : Nat} {s : Srv} (h : RefIs w base rb s) (ho : Only [] w w') : RefIs w' base rb s := by
  obtain ⟨v, me, own, ge⟩ := h
  exact ⟨v, ho.blk me (by simp), ownsRow_only own ho (fun _ _ => by simp), ge⟩

set_option maxHeartbeats 1000000 in
theorem rreps_ok (base rb : Nat) (s : Srv) (w : World) (hs : RefIs w base rb s) (hI : s.Inv) (hbase : base ≤ w.heap.size) :
    Calls Try.prog 20 #[.pointer (some ⟨rb, 0, none⟩)] w
      fun e w' => ∃ A c, e = .returned (.slice A s.list.length c) ∧ RefIs w' base rb s ∧ Only [] w w' ∧
        (∀ k x, s.list[k]? = some x → ∃ q, A = some ⟨q, 0, none⟩ ∧ w'.cell? ⟨q, k * 2, none⟩ = some (I64 x.1) ∧ w'.cell? ⟨q, k * 2 + 1, none⟩ = some (I64 x.2)) := by
  obtain ⟨i0, hi0, hz0, hs0, hb0⟩ := info_parts rrep_info
  have HS := hide hs
  obtain ⟨v, me, own, ge⟩ := hs
  have hN := hI.prm.2.2.2.2.2.1
  have hll := hI.len
  have d5 := (me.alloc (.cells #[] 73)).cell (i := 5) rfl
  have hlit := World.ownsRow_lit (base := w.heap.size) (e := 73) (size := 2) w #[] 0 (Nat.le_refl _) (by simp [maxLen]) rfl
  rcases own.2 with ⟨rfl, hn⟩ | ⟨g, cap, cur, rfl, hbg, hh, h1, h2, h3, h4⟩
  · have hl0 : s.list = [] := List.eq_nil_of_length_eq_zero hn
    have HL := hide hl0
    clear hl0 hn
    go_enter Try.func20, Try.ntmps20
    go_wp2_with (at_builtin; refine Go.wpList_append_own_none rfl (.tmp 5) (.tmp 9) 56 rfl w.heap.size 73 i0 2 Try.underlying56 hi0 _ _ _ rfl hlit rfl ?_)
    go_wp2
    refine bodyPost_ret (v := .slice (some ⟨w.heap.size, 0, none⟩) 0 0) (by simp [results, Try.func20, Try.f20, go_sem]) rfl ?_
    exact ⟨some ⟨w.heap.size, 0, none⟩, ⟨0, by rw [HL.out]; rfl⟩, HS.out.only ((Only.refl _ _).alloc _), (Only.refl _ _).alloc _, fun k a b hx => by rw [HL.out] at hx; simp at hx⟩
  · have hnews : ∀ j u, (bufCells s.list)[j]? = some u → (w.alloc (.cells #[] 73)).cell? ((⟨g, 0, none⟩ : Addr).add j) = some u := by
      intro j u hu
      have hj : j < s.list.length * 2 := by have := (List.getElem?_eq_some_iff.1 hu).1; rwa [bufCells_len] at this
      rw [add_zero_off]
      refine ((Only.refl [] w).alloc _).cellA (v := u) ?_ (by simp)
      rw [own.cellAt j hj]
      exact hu
    clear hh h3 h4
    go_enter Try.func20, Try.ntmps20
    go_wp2_with (at_builtin; refine wpList_append_own _ rfl (.tmp 5) (.tmp 9) 56 rfl w.heap.size 73 i0 (.agg #[.int .i64 0, .int .i64 0]) 2 16 Try.underlying56 hi0 hz0 hs0 hb0 rfl (by decide) _ _ _ rfl hlit ⟨g, 0, none⟩ s.list.length cap (bufCells s.list) rfl (by simp [bufCells_len]) hnews (fun u hu => bufCells_one _ u hu) (by unfold maxLen; omega) (by omega) (by simp) ?_)
    intro v3 w3 hown3 hgrow _
    try simp only [Nat.zero_add, List.nil_append] at hown3
    obtain ⟨A3, c3, rfl⟩ := own_shape hown3
    have only3 : Only [] w w3 := ((Only.refl [] w).alloc _).trans' (Only.of_grown (S := [w.heap.size]) hgrow (by simp [Value.ownBlock])) (by simp)
    clear d5 hlit hnews
    go_wp2
    go_ret
    refine ⟨A3, c3, rfl, HS.out.only only3, only3, fun k x hx => ?_⟩
    have hlt := (List.getElem?_eq_some_iff.1 hx).1
    rcases hown3.2 with ⟨he, h0⟩ | ⟨q, cap', cur', he, _⟩
    · omega
    · injection he with he _ _
      subst he
      refine ⟨q, rfl, ?_, ?_⟩
      · rw [hown3.cellAt (k * 2) (by omega)]; exact (bufCells_at _ k x hx).1
      · rw [hown3.cellAt (k * 2 + 1) (by omega)]; exact (bufCells_at _ k x hx).2

end Go.Proofs.Ytdjkgbkckmjfiaa
