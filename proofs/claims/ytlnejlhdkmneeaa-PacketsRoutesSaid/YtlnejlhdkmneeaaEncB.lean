/- Rows of bytes of a call's own, side by side. -/
import Derived.Test.YtlnejlhdkmneeaaEncA
import Derived.Deep.DeepCutAuto
namespace Go.Proofs.Ytlnejlhdkmneeaa
open Go.RowKit

/-- Rows of bytes that are new since w0, each in a block of its own. -/
def RowsOk (w0 w : World) (l : List (Value × List Nat)) : Prop :=
  Only [] w0 w ∧ (∀ r ∈ l, w.ownsRow w0.heap.size 5 1 r.1 r.2.length (bcells r.2)) ∧ l.Pairwise (fun r s => ∀ k, r.1.ownBlock = some k → s.1.ownBlock ≠ some k)

theorem RowsOk.nil (w0 : World) : RowsOk w0 w0 [] := ⟨Only.refl _ _, by simp, .nil⟩
theorem RowsOk.only {w0 w w' : World} {l : List (Value × List Nat)} (h : RowsOk w0 w l) (ho : Only [] w w') : RowsOk w0 w' l :=
  ⟨Only.trans h.1 ho, fun r hr => own_nil (h.2.1 r hr) ho, h.2.2⟩
theorem RowsOk.new {w0 w w' : World} {l : List (Value × List Nat)} (h : RowsOk w0 w l) {v : Value} {L : List Nat} (ho : Only [] w w') (hv : w'.ownsRow w.heap.size 5 1 v L.length (bcells L)) : RowsOk w0 w' ((v, L) :: l) := by
  have h1 := h.only ho
  refine ⟨h1.1, ?_, ?_⟩
  · intro r hr
    rcases List.mem_cons.1 hr with rfl | hr
    · exact own_base hv h.1.size
    · exact h1.2.1 r hr
  · refine .cons ?_ h.2.2
    intro s hs k hk he
    have a1 := (hv.lt k hk).1
    have a2 := ((h.2.1 s hs).lt k he).2
    omega
theorem RowsOk.get {w0 w : World} {l : List (Value × List Nat)} (h : RowsOk w0 w l) (i : Nat) {r : Value × List Nat} (hr : l[i]? = some r) : w.ownsRow w0.heap.size 5 1 r.1 r.2.length (bcells r.2) := h.2.1 r (List.mem_of_getElem? hr)
theorem own_some {w : World} {base n sz : Nat} {T : TypeId} {v : Value} {xs : List Value} (h : w.ownsRow base T sz v n xs) (hn : 0 < n) : ∃ g c, v = .slice (some ⟨g, 0, none⟩) n c := by
  rcases h.2 with ⟨_, h0⟩ | ⟨g, cap, cur, rfl, _⟩
  · omega
  · exact ⟨g, cap, rfl⟩

set_option maxRecDepth 100000 in
theorem wp_app2 {o : Oper} {a : Act} {w : World} {K : Act → World → Prop} {Q : Exit → Act → World → Prop} (s x : Operand) (ho : o.op = .call { callee := .builtin .append, args := #[s, x], argTypes := #[28, 28] })
    (w0 : World) (l1 l2 l : List (Value × List Nat)) (v : Value) (L : List Nat) (hl : l = l1 ++ (v, L) :: l2) (hR : RowsOk w0 w l) (hs : a.eval s = v) (A : Addr) (m c : Nat) (X : List Nat) (hx : a.eval x = .slice (some A) m c) (hm : X.length = m) (hX : NumsIn w .u8 (some A) X)
    (hsz : L.length + m ≤ 1000000) (h : ∀ v' w', RowsOk w0 w' (l1 ++ (v', L ++ X) :: l2) → (∀ b t cs, t ≠ 5 → Blk w b t cs → Blk w' b t cs) → K (a.put o.dst v') w') : o.wp Try.prog a w K Q := by
  obtain ⟨i0, hi0, hz0, hs0, hb0⟩ := info_parts u8_info
  subst hl
  have hown := hR.2.1 (v, L) (by simp)
  obtain ⟨v', w', hr, h2, h3, h4⟩ := run_append_row (P := Try.prog) w 28 o.type 5 i0 (.int .u8 0) 1 1 Try.underlying28 hi0 hz0 hs0 hb0 rfl (by decide) v L.length (bcells L) (own_base hown (Nat.zero_le _)) A m c (bcells X) (by rw [bcells_len]; omega)
    (fun j u hu => by
      have hj := (List.getElem?_eq_some_iff.1 hu).1
      rw [bcells_len] at hj
      have hxj := List.getElem?_eq_getElem hj
      obtain ⟨b, o', he, hc⟩ := hX j _ hxj
      injection he with he
      subst he
      rw [show (⟨b, o', none⟩ : Addr).add j = ⟨b, o' + j, none⟩ by unfold Addr.add; split <;> simp_all]
      rw [bcells_at hxj] at hu
      injection hu with hu
      rw [← hu]; exact hc) (by intro u hu; simp [bcells] at hu; obtain ⟨_, _, rfl⟩ := hu; rfl) (by unfold maxLen; omega) (by omega)
  unfold Oper.wp execOp
  simp only [ho, resolve, invoke, builtin, Sem.run_bind, Sem.run_pure, Result.andThen_ok, List.map_toArray, List.map_cons, List.map_nil, hs, hx, hr]
  refine h v' w' ?_ (fun b t cs ht hb => h3.blk hb (by simpa [Option.mem_toList] using own_ne_blk hown hb (Ne.symm ht)))
  have hpw := List.pairwise_append.1 hR.2.2
  have hlt : ∀ k, v.ownBlock = some k → w0.heap.size ≤ k := fun k hk => (hown.lt k hk).1
  have hO : Only [] w0 w' := hR.1.trans' h3 (fun i hi hlt' => by have := hlt i (by simpa using hi); omega)
  -- a row other than v's
  have keep : ∀ r : Value × List Nat, w.ownsRow w0.heap.size 5 1 r.1 r.2.length (bcells r.2) → (∀ k, r.1.ownBlock = some k → v.ownBlock ≠ some k) → w'.ownsRow w0.heap.size 5 1 r.1 r.2.length (bcells r.2) := fun r hr hne =>
    own_only hr h3 fun k hk hm => hne k hk (by simpa using hm)
  have far : ∀ r : Value × List Nat, w.ownsRow w0.heap.size 5 1 r.1 r.2.length (bcells r.2) → (∀ k, r.1.ownBlock = some k → v.ownBlock ≠ some k) → ∀ k, r.1.ownBlock = some k → v'.ownBlock ≠ some k := fun r hr hne k hk he => by
    rcases h4 with h4 | h4
    · rw [h4] at he; exact hne k hk he
    · rw [h4] at he
      injection he with he
      subst he
      have := (hr.lt _ hk).2; omega
  have d1 : ∀ r ∈ l1, ∀ k, r.1.ownBlock = some k → v.ownBlock ≠ some k := fun r hr => hpw.2.2 r hr (v, L) (by simp)
  have d2 : ∀ r ∈ l2, ∀ k, r.1.ownBlock = some k → v.ownBlock ≠ some k := fun r hr k hk he => List.rel_of_pairwise_cons hpw.2.1 hr k he hk
  refine ⟨hO, ?_, ?_⟩
  · intro r hr
    rcases List.mem_append.1 hr with hr | hr
    · exact keep r (hR.2.1 r (by simp [hr])) (d1 r hr)
    · rcases List.mem_cons.1 hr with rfl | hr
      · have e : (L ++ X).length = L.length + m := by rw [List.length_append, hm]
        show w'.ownsRow w0.heap.size 5 1 v' (L ++ X).length (bcells (L ++ X))
        rw [e, bcells_app]
        obtain ⟨q1, q2⟩ := h2
        refine ⟨q1, ?_⟩
        rcases q2 with q2 | ⟨g, cap, cur, hv', _, q3⟩
        · exact .inl q2
        · refine .inr ⟨g, cap, cur, hv', ?_, q3⟩
          rcases h4 with h4 | h4
          · exact hlt g (by rw [← h4, hv']; rfl)
          · have : g = w.heap.size := by rw [hv'] at h4; simpa [Value.ownBlock] using h4
            have := hR.1.size; omega
      · exact keep r (hR.2.1 r (by simp [hr])) (d2 r hr)
  · refine List.pairwise_append.2 ⟨hpw.1, .cons ?_ (List.pairwise_cons.1 hpw.2.1).2, ?_⟩
    · intro r hr k hk he
      exact far r (hR.2.1 r (by simp [hr])) (d2 r hr) k he hk
    · intro r hr s hs k hk
      rcases List.mem_cons.1 hs with rfl | hs
      · exact far r (hR.2.1 r (by simp [hr])) (d1 r hr) k hk
      · exact hpw.2.2 r hr s (by simp [hs]) k hk

theorem wp_app {o : Oper} {a : Act} {w : World} {K : Act → World → Prop} {Q : Exit → Act → World → Prop} (s x : Operand) (ho : o.op = .call { callee := .builtin .append, args := #[s, x], argTypes := #[28, 28] })
    (w0 : World) (l1 l2 l : List (Value × List Nat)) (v : Value) (L : List Nat) (hl : l = l1 ++ (v, L) :: l2) (hR : RowsOk w0 w l) (hs : a.eval s = v) (A : Addr) (m c : Nat) (X : List Nat) (hx : a.eval x = .slice (some A) m c) (hm : X.length = m) (hX : NumsIn w .u8 (some A) X)
    (hsz : L.length + m ≤ 1000000) (h : ∀ v' w', RowsOk w0 w' (l1 ++ (v', L ++ X) :: l2) → K (a.put o.dst v') w') : o.wp Try.prog a w K Q :=
  wp_app2 s x ho w0 l1 l2 l v L hl hR hs A m c X hx hm hX hsz fun v' w' hr _ => h v' w' hr

theorem rputI_ok (x : Int) (n : Nat) (w : World) (h0 : 0 ≤ x) (hx : x < 18446744073709551616) (hn : n ≤ 8) : Calls Try.prog 66 #[.int .u64 x, I64 n] w fun e w' => RputS x.toNat n w e w' := by
  have h := rput_ok x.toNat n w (by omega) hn
  rw [Int.toNat_of_nonneg h0] at h
  exact h
theorem RputS.rows {w0 w w' : World} {e : Ending} {x n : Nat} {l : List (Value × List Nat)} (h : RputS x n w e w') (hR : RowsOk w0 w l) (hn : 0 < n) : ∃ g c, e = .returned (.slice (some ⟨g, 0, none⟩) n c) ∧ RowsOk w0 w' ((.slice (some ⟨g, 0, none⟩) n c, putB x n n) :: l) := by
  obtain ⟨v, rfl, h1, h2⟩ := h
  obtain ⟨g, c, rfl⟩ := own_some h1 hn
  exact ⟨g, c, rfl, hR.new h2 (by rw [putB_len]; exact h1)⟩
theorem RowsOk.made {w0 w : World} {l : List (Value × List Nat)} (hR : RowsOk w0 w l) (cs : Array Value) (L : List Nat) (n : Nat) (hn : L.length = n) (hc : cs.toList = bcells L) (hm : n ≤ 1000) : RowsOk w0 (w.alloc (.cells cs 5)) ((.slice (some ⟨w.heap.size, 0, none⟩) n n, L) :: l) := by
  refine hR.new ((Only.refl [] w).alloc _) ?_
  have hsz : cs.size = n := by rw [← Array.length_toList, hc, bcells_len, hn]
  refine ⟨by rw [bcells_len]; simp, .inr ⟨w.heap.size, n, cs, by rw [hn], Nat.le_refl _, heap_alloc_new w _, by omega, by unfold maxLen; omega, by rw [hsz]; simp, ?_⟩⟩
  rw [hc, List.take_of_length_le]
  rw [bcells_len]; simp

end Go.Proofs.Ytlnejlhdkmneeaa
