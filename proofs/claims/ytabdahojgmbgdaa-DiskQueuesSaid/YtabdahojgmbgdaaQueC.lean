/- The queue: its memory; least. -/
import Derived.Test.YtabdahojgmbgdaaQueB
namespace Go.Proofs.Ytabdahojgmbgdaa
open Go.RowKit

structure Qu where
  head : Int
  down : Bool
  l : List Rq

structure QuOk (Q : Qu) : Prop where
  h0 : 0 ≤ Q.head
  h1 : Q.head < 4096
  ok : ∀ r ∈ Q.l, r.Ok
  nd : (Q.l.map Rq.id).Nodup
  len : Q.l.length ≤ 1000

structure QuAt (base : Nat) (w : World) (q : Nat) (v : Value) (Q : Qu) : Prop where
  me : Blk w q quT [I64 Q.head, .bool Q.down, v]
  row : w.ownsRow base rqT 3 v Q.l.length (Q.l.flatMap Rq.cells)
  ok : QuOk Q
theorem QuAt.keep {base q : Nat} {w w' : World} {v : Value} {Q : Qu} (h : QuAt base w q v Q) (ho : Only [] w w') : QuAt base w' q v Q := ⟨ho.blk h.me (by simp), own_nil h.row ho, h.ok⟩
theorem rq_one (l : List Rq) : ∀ u ∈ l.flatMap Rq.cells, u.oneCell' = true := by
  intro u hu
  simp only [List.mem_flatMap, Rq.cells] at hu
  obtain ⟨r, _, hu⟩ := hu
  simp at hu
  rcases hu with rfl | rfl | rfl <;> rfl
theorem rqflat_len (l : List Rq) : (l.flatMap Rq.cells).length = l.length * 3 := flat_len l (fun _ _ => rfl)
/-- The cells of request k. -/
theorem row_cells {base : Nat} {w : World} {v : Value} {l : List Rq} {n : Nat} (h : w.ownsRow base rqT 3 v n (l.flatMap Rq.cells)) {g c : Nat} (hv : v = .slice (some ⟨g, 0, none⟩) n c) {k : Nat} {r : Rq} (hr : l[k]? = some r) :
    w.cell? ⟨g, k * 3, none⟩ = some (I64 r.id) ∧ w.cell? ⟨g, k * 3 + 1, none⟩ = some (I64 r.blk) ∧ w.cell? ⟨g, k * 3 + 2, none⟩ = some (I64 r.dl) := by
  have hg : v.ownBlock = some g := by rw [hv]; rfl
  have hc : ∀ j u, r.cells[j]? = some u → w.cell? ⟨g, k * 3 + j, none⟩ = some u := by
    intro j u hu
    have := h.cells hg (k * 3 + j) u (flat_at (enc := Rq.cells) (sz := 3) l (fun _ _ => rfl) k r j u hr hu)
    rwa [addr_add, Nat.zero_add] at this
  exact ⟨hc 0 _ rfl, hc 1 _ rfl, hc 2 _ rfl⟩
theorem own_slice {base : Nat} {w : World} {e : TypeId} {sz n : Nat} {v : Value} {xs : List Value} (h : w.ownsRow base e sz v n xs) (hn : 0 < n) : ∃ g c, v = .slice (some ⟨g, 0, none⟩) n c := by
  rcases h.2 with ⟨-, h0⟩ | ⟨g, c, cur, h1, -⟩
  · omega
  · exact ⟨g, c, h1⟩

/-- The place of the least of the first k for which p holds. -/
def leastK (p : Rq → Bool) (c : Rq → Rq → Int) (l : List Rq) : Nat → Option Nat
  | 0 => none
  | k + 1 => match l[k]? with
    | none => leastK p c l k
    | some r => if p r then (match leastK p c l k with
      | none => some k
      | some a => match l[a]? with
        | none => some k
        | some x => if c r x < 0 then some k else some a) else leastK p c l k
def ixI : Option Nat → Int
  | none => -1
  | some i => (i : Int)
theorem leastK_lt {p : Rq → Bool} {c : Rq → Rq → Int} {l : List Rq} (k : Nat) : ∀ a, k ≤ l.length → leastK p c l k = some a → a < k := by
  induction k with
  | zero => intro a _ h; simp [leastK] at h
  | succ k ih =>
    intro a hk h
    unfold leastK at h
    cases hl : l[k]? with
    | none => rw [hl] at h; have := ih a (by omega) h; omega
    | some r =>
      rw [hl] at h
      simp only at h
      by_cases hp : p r = true
      · rw [if_pos hp] at h
        cases hm : leastK p c l k with
        | none => rw [hm] at h; simp at h; omega
        | some b =>
          rw [hm] at h
          simp only at h
          have hb := ih b (by omega) hm
          cases hx : l[b]? with
          | none => rw [hx] at h; simp at h; omega
          | some x =>
            rw [hx] at h
            simp only at h
            split at h <;> simp at h <;> omega
      · rw [if_neg hp] at h
        have := ih a (by omega) h
        omega
def LeastI (p : Rq → Bool) (c : Rq → Rq → Int) (l : List Rq) (w : World) (at' : Int) (k : Nat) (wr : World) : Prop := at' = ixI (leastK p c l k) ∧ Only [] w wr

set_option maxRecDepth 20000 in
set_option maxHeartbeats 2000000 in
theorem least_ok (base q : Nat) (v : Value) (Q : Qu) (w : World) (h : QuAt base w q v Q) (F1 F2 : FuncId) (caps1 caps2 : Array Value) (p : Rq → Bool) (c : Rq → Rq → Int)
    (e1 : ∀ (args : Array Value) (w : World), Sem.run Try.prog (callFunc F1 args) w = .ok (.enter F1 args) w) (e2 : ∀ (args : Array Value) (w : World), Sem.run Try.prog (callFunc F2 args) w = .ok (.enter F2 args) w)
    (k1 : ∀ r W, r ∈ Q.l → Only [] w W → Calls Try.prog F1 (#[r.V] ++ caps1) W fun e w' => e = .returned (.bool (p r)) ∧ Only [] W w')
    (k2 : ∀ a b W, a ∈ Q.l → b ∈ Q.l → Only [] w W → Calls Try.prog F2 (#[a.V, b.V] ++ caps2) W fun e w' => e = .returned (I64 (c a b)) ∧ Only [] W w') :
    Calls Try.prog 81 #[.pointer (some ⟨q, 0, none⟩), .func (.func F1) #[] caps1, .func (.func F2) #[] caps2] w fun e w' => e = .returned (I64 (ixI (leastK p c Q.l Q.l.length))) ∧ Only [] w w' := by
  obtain ⟨A, cap, hv⟩ := own_shape h.row
  subst hv
  obtain ⟨n, hn⟩ : ∃ n, n = Q.l.length := ⟨_, rfl⟩
  rw [← hn] at h ⊢
  have c2 := h.me.cell (i := 2) rfl
  have hl := h.me.lt
  have hn4 : n ≤ 1000 := by rw [hn]; exact h.ok.len
  have HQ := hide h
  have HN := hide hn
  have HE1 := hide e1
  have HE2 := hide e2
  have HK1 := hide k1
  have HK2 := hide k2
  clear h hn e1 e2 k1 k2
  go_enter Try.func81, Try.ntmps81
  go_wp2
  go_loopw [7, 15] (fun at' i wr => ∃ (k : Nat) (a : Int), k ≤ n ∧ i = I64 (k : Nat) ∧ at' = I64 a ∧ Hid (LeastI p c Q.l w a k wr)) (fun _ i _ => n - (intOf i).toNat)
  case atStart => exact ⟨0, -1, Nat.zero_le _, rfl, rfl, hide ⟨rfl, Only.refl _ _⟩⟩
  case round =>
    obtain ⟨k, a, hk, rfl, rfl, HI⟩ := hrel
    rcases Nat.lt_or_ge k n with hlt | hge
    · obtain ⟨r, hr⟩ : ∃ r, Q.l[k]? = some r := ⟨_, List.getElem?_eq_getElem (by rw [← HN.out]; exact hlt)⟩
      have hmem := List.mem_of_getElem? hr
      obtain ⟨g, cp, hsl⟩ := own_slice HQ.out.row (by rw [← HN.out]; omega)
      obtain rfl : A = some ⟨g, 0, none⟩ := by injection hsl
      have hrow : wr.ownsRow base rqT 3 (.slice (some ⟨g, 0, none⟩) n cap) n (Q.l.flatMap Rq.cells) := by
        have := own_nil HQ.out.row HI.out.2
        rwa [← HN.out] at this
      obtain ⟨x0, x1, x2⟩ := row_cells hrow rfl hr
      have HR := hide hr
      have HM := hide hmem
      have hk0 : ((k : Nat) : Int) < (n : Int) := by omega
      clear hr hmem hsl hrow c2
      go_upto_region 5 with (refine wpList_store_cells rfl rqT (.tmp 9) (.tmp 19) rfl wr.heap.size 0 rfl r.cells rfl rqT [I64 0, I64 0, I64 0] (Blk.newA rfl) (by exact Nat.le_refl _) (by kernel_rfl) (by simp [Rq.cells, Value.oneCell']) ?_; intro w2 hw2)
      simp only [Act.put]
      have hox : Only [] wr w2 := ((Only.refl [] wr).alloc _).trans' hw2.2.1 (by intro i hi hlt; simp at hi; omega)
      have hbx : Blk w2 wr.heap.size rqT r.cells := hw2.1.to (by simp [Rq.cells])
      have y0 := hbx.cell (i := 0) rfl
      have y1 := hbx.cell (i := 1) rfl
      have y2 := hbx.cell (i := 2) rfl
      have ly := hbx.lt
      have HO2 := hide (HI.out.2.trans hox)
      have HB := hide hbx
      clear hw2 hox hbx x0 x1 x2
      cases hlk : leastK p c Q.l k with
      | none =>
        have HLK := hide hlk
        obtain rfl : a = -1 := by have := HI.out.1; rw [hlk] at this; exact this
        clear hlk
        have HS : Hid (∀ W, Only [] w W → W.cell? ⟨q, 2, none⟩ = some (.slice (some ⟨g, 0, none⟩) n cap)) := hide (fun W hW => (hW.blk HQ.out.me (by simp)).cell (i := 2) rfl)
        rcases Bool.eq_false_or_eq_true (p r) with hp | hp
        · have HP := hide hp
          clear hp
          refine wp_region_text 16 [2] [3, 4, 5, 6, 7, 9, 10, 11, 13, 14] [12, 15] (fun W => W.cell? ⟨q, 2, none⟩ = some (.slice (some ⟨g, 0, none⟩) n cap)) (by kernel_rfl) (by kernel_rfl) (HS.out _ HO2.out.drew) ?_
          simp only [List.take_succ_cons, List.take_zero, List.drop_succ_cons, List.drop_zero]
          repeat (first | ((refine wpText_h rfl rfl ?_; apply Exists.intro; refine ⟨?_, ?_⟩; next => (go_simp; (try (go_bits; go_simp)); (first | done | with_reducible rfl | (rw [if_neg (by omega)]; (try (go_bits; go_simp)); (first | done | with_reducible rfl)) | (rw [if_pos (by omega)]; (try (go_bits; go_simp)); (first | done | with_reducible rfl))))); (try simp only [Act.put, List.setIfInBounds_toArray, List.set_cons_zero, List.set_cons_succ])) | ((refine wpText_p rfl rfl ?_; apply Exists.intro; refine ⟨?_, ?_⟩; next => (intro w'; go_simp; (try (go_bits; go_simp)); (first | done | with_reducible rfl | (rw [if_neg (by omega)]; (try (go_bits; go_simp)); (first | done | with_reducible rfl)) | (rw [if_pos (by omega)]; (try (go_bits; go_simp)); (first | done | with_reducible rfl))))); (try simp only [Act.put, List.setIfInBounds_toArray, List.set_cons_zero, List.set_cons_succ])) | ((refine wpText_y rfl rfl ?_; apply Exists.intro; refine ⟨?_, ?_⟩; next => (intro w' hS; (first | obtain ⟨_, rfl⟩ := hS | skip); go_simp; (try (go_bits; go_simp)); (first | done | with_reducible rfl | (rw [if_neg (by omega)]; (try (go_bits; go_simp)); (first | done | with_reducible rfl)) | (rw [if_pos (by omega)]; (try (go_bits; go_simp)); (first | done | with_reducible rfl))))); (try simp only [Act.put, List.setIfInBounds_toArray, List.set_cons_zero, List.set_cons_succ])) | (refine wpText_skip (by first | exact .inl rfl | exact .inr (.inl rfl) | exact .inr (.inr rfl)) rfl ?_; (try simp only [Act.put, List.setIfInBounds_toArray, List.set_cons_zero, List.set_cons_succ])))
          refine wpText_e rfl rfl (fun K hK => ?_)
          go_wp2_with fail
          rw [HE1.out]
          refine (HK1.out r _ HM.out HO2.out.drew).mono ?_
          rw [HP.out]
          rintro e w3 ⟨rfl, ho3⟩
          have hB3 := ho3.blk HB.out.drew (by simp)
          have z0 := hB3.cell (i := 0) rfl
          have z1 := hB3.cell (i := 1) rfl
          have z2 := hB3.cell (i := 2) rfl
          have lz := hB3.lt
          have HO3 := hide (HO2.out.drew.trans ho3)
          clear ho3 hB3 y0 y1 y2
          refine hK _ _ (HS.out _ HO3.out) ?_
          clear hK K
          try simp only [Act.put, List.setIfInBounds_toArray, List.set_cons_zero, List.set_cons_succ]
          have hsS := HS.out _ HO3.out
          repeat (first | ((refine wpText_h rfl rfl ?_; apply Exists.intro; refine ⟨?_, ?_⟩; next => (go_simp; (try (go_bits; go_simp)); (first | done | with_reducible rfl | (rw [if_neg (by omega)]; (try (go_bits; go_simp)); (first | done | with_reducible rfl)) | (rw [if_pos (by omega)]; (try (go_bits; go_simp)); (first | done | with_reducible rfl))))); (try simp only [Act.put, List.setIfInBounds_toArray, List.set_cons_zero, List.set_cons_succ])) | ((refine wpText_p rfl rfl ?_; apply Exists.intro; refine ⟨?_, ?_⟩; next => (intro w'; go_simp; (try (go_bits; go_simp)); (first | done | with_reducible rfl | (rw [if_neg (by omega)]; (try (go_bits; go_simp)); (first | done | with_reducible rfl)) | (rw [if_pos (by omega)]; (try (go_bits; go_simp)); (first | done | with_reducible rfl))))); (try simp only [Act.put, List.setIfInBounds_toArray, List.set_cons_zero, List.set_cons_succ])) | ((refine wpText_y rfl rfl ?_; apply Exists.intro; refine ⟨?_, ?_⟩; next => (intro w' hS; (first | obtain ⟨_, rfl⟩ := hS | skip); go_simp; (try (go_bits; go_simp)); (first | done | with_reducible rfl | (rw [if_neg (by omega)]; (try (go_bits; go_simp)); (first | done | with_reducible rfl)) | (rw [if_pos (by omega)]; (try (go_bits; go_simp)); (first | done | with_reducible rfl))))); (try simp only [Act.put, List.setIfInBounds_toArray, List.set_cons_zero, List.set_cons_succ])) | (refine wpText_skip (by first | exact .inl rfl | exact .inr (.inl rfl) | exact .inr (.inr rfl)) rfl ?_; (try simp only [Act.put, List.setIfInBounds_toArray, List.set_cons_zero, List.set_cons_succ])))
          refine wpText_nil ?_
          have hR : Hid (leastK p c Q.l (k + 1) = some k) := hide (by
            unfold leastK
            rw [HR.out]
            simp only
            rw [if_pos HP.out, HLK.out])
          go_wp2
          refine NoX.normal ?_
          go_wp2
          go_roundw
          case rel => exact ⟨k + 1, (k : Int), by omega, by go_num, rfl, hide ⟨by rw [hR.out]; rfl, HO3.out⟩⟩
          case measure => simp [intOf]; omega
        · have HP := hide hp
          clear hp
          refine wp_region_text 16 [2] [3, 4, 5, 6, 7, 9, 10, 11, 13, 14] [12, 15] (fun W => W.cell? ⟨q, 2, none⟩ = some (.slice (some ⟨g, 0, none⟩) n cap)) (by kernel_rfl) (by kernel_rfl) (HS.out _ HO2.out.drew) ?_
          simp only [List.take_succ_cons, List.take_zero, List.drop_succ_cons, List.drop_zero]
          repeat (first | ((refine wpText_h rfl rfl ?_; apply Exists.intro; refine ⟨?_, ?_⟩; next => (go_simp; (try (go_bits; go_simp)); (first | done | with_reducible rfl | (rw [if_neg (by omega)]; (try (go_bits; go_simp)); (first | done | with_reducible rfl)) | (rw [if_pos (by omega)]; (try (go_bits; go_simp)); (first | done | with_reducible rfl))))); (try simp only [Act.put, List.setIfInBounds_toArray, List.set_cons_zero, List.set_cons_succ])) | ((refine wpText_p rfl rfl ?_; apply Exists.intro; refine ⟨?_, ?_⟩; next => (intro w'; go_simp; (try (go_bits; go_simp)); (first | done | with_reducible rfl | (rw [if_neg (by omega)]; (try (go_bits; go_simp)); (first | done | with_reducible rfl)) | (rw [if_pos (by omega)]; (try (go_bits; go_simp)); (first | done | with_reducible rfl))))); (try simp only [Act.put, List.setIfInBounds_toArray, List.set_cons_zero, List.set_cons_succ])) | ((refine wpText_y rfl rfl ?_; apply Exists.intro; refine ⟨?_, ?_⟩; next => (intro w' hS; (first | obtain ⟨_, rfl⟩ := hS | skip); go_simp; (try (go_bits; go_simp)); (first | done | with_reducible rfl | (rw [if_neg (by omega)]; (try (go_bits; go_simp)); (first | done | with_reducible rfl)) | (rw [if_pos (by omega)]; (try (go_bits; go_simp)); (first | done | with_reducible rfl))))); (try simp only [Act.put, List.setIfInBounds_toArray, List.set_cons_zero, List.set_cons_succ])) | (refine wpText_skip (by first | exact .inl rfl | exact .inr (.inl rfl) | exact .inr (.inr rfl)) rfl ?_; (try simp only [Act.put, List.setIfInBounds_toArray, List.set_cons_zero, List.set_cons_succ])))
          refine wpText_e rfl rfl (fun K hK => ?_)
          go_wp2_with fail
          rw [HE1.out]
          refine (HK1.out r _ HM.out HO2.out.drew).mono ?_
          rw [HP.out]
          rintro e w3 ⟨rfl, ho3⟩
          have hB3 := ho3.blk HB.out.drew (by simp)
          have z0 := hB3.cell (i := 0) rfl
          have z1 := hB3.cell (i := 1) rfl
          have z2 := hB3.cell (i := 2) rfl
          have lz := hB3.lt
          have HO3 := hide (HO2.out.drew.trans ho3)
          clear ho3 hB3 y0 y1 y2
          refine hK _ _ (HS.out _ HO3.out) ?_
          clear hK K
          try simp only [Act.put, List.setIfInBounds_toArray, List.set_cons_zero, List.set_cons_succ]
          have hsS := HS.out _ HO3.out
          repeat (first | ((refine wpText_h rfl rfl ?_; apply Exists.intro; refine ⟨?_, ?_⟩; next => (go_simp; (try (go_bits; go_simp)); (first | done | with_reducible rfl | (rw [if_neg (by omega)]; (try (go_bits; go_simp)); (first | done | with_reducible rfl)) | (rw [if_pos (by omega)]; (try (go_bits; go_simp)); (first | done | with_reducible rfl))))); (try simp only [Act.put, List.setIfInBounds_toArray, List.set_cons_zero, List.set_cons_succ])) | ((refine wpText_p rfl rfl ?_; apply Exists.intro; refine ⟨?_, ?_⟩; next => (intro w'; go_simp; (try (go_bits; go_simp)); (first | done | with_reducible rfl | (rw [if_neg (by omega)]; (try (go_bits; go_simp)); (first | done | with_reducible rfl)) | (rw [if_pos (by omega)]; (try (go_bits; go_simp)); (first | done | with_reducible rfl))))); (try simp only [Act.put, List.setIfInBounds_toArray, List.set_cons_zero, List.set_cons_succ])) | ((refine wpText_y rfl rfl ?_; apply Exists.intro; refine ⟨?_, ?_⟩; next => (intro w' hS; (first | obtain ⟨_, rfl⟩ := hS | skip); go_simp; (try (go_bits; go_simp)); (first | done | with_reducible rfl | (rw [if_neg (by omega)]; (try (go_bits; go_simp)); (first | done | with_reducible rfl)) | (rw [if_pos (by omega)]; (try (go_bits; go_simp)); (first | done | with_reducible rfl))))); (try simp only [Act.put, List.setIfInBounds_toArray, List.set_cons_zero, List.set_cons_succ])) | (refine wpText_skip (by first | exact .inl rfl | exact .inr (.inl rfl) | exact .inr (.inr rfl)) rfl ?_; (try simp only [Act.put, List.setIfInBounds_toArray, List.set_cons_zero, List.set_cons_succ])))
          refine wpText_nil ?_
          have hR : Hid (leastK p c Q.l (k + 1) = none) := hide (by
            unfold leastK
            rw [HR.out]
            simp only
            rw [if_neg (by rw [HP.out]; decide), HLK.out])
          go_wp2
          refine NoX.normal ?_
          go_wp2
          go_roundw
          case rel => exact ⟨k + 1, -1, by omega, by go_num, rfl, hide ⟨by rw [hR.out]; rfl, HO3.out⟩⟩
          case measure => simp [intOf]; omega
      | some i =>
        have hik : i < k := leastK_lt k i (by rw [← HN.out]; exact hk) hlk
        obtain ⟨x, hx⟩ : ∃ x, Q.l[i]? = some x := ⟨_, List.getElem?_eq_getElem (by rw [← HN.out]; omega)⟩
        have HLK := hide hlk
        obtain rfl : a = (i : Nat) := by have := HI.out.1; rw [hlk] at this; exact this
        have HX := hide hx
        have HXM := hide (List.mem_of_getElem? hx)
        have hi0 : ((i : Nat) : Int) < (n : Int) := by omega
        have hi1 : ¬ ((i : Nat) : Int) < 0 := by omega
        clear hlk hx
        have HS : Hid (∀ W, Only [] w W → W.cell? ⟨q, 2, none⟩ = some (.slice (some ⟨g, 0, none⟩) n cap) ∧ W.cell? ⟨g, i * 3, none⟩ = some (I64 x.id) ∧ W.cell? ⟨g, i * 3 + 1, none⟩ = some (I64 x.blk) ∧ W.cell? ⟨g, i * 3 + 2, none⟩ = some (I64 x.dl)) := hide (fun W hW => by
          refine ⟨(hW.blk HQ.out.me (by simp)).cell (i := 2) rfl, ?_⟩
          have hrow := own_nil HQ.out.row hW
          rw [← HN.out] at hrow
          exact row_cells hrow rfl HX.out)
        rcases Bool.eq_false_or_eq_true (p r) with hp | hp
        · have HP := hide hp
          clear hp
          refine wp_region_text 16 [2] [3, 4, 5, 6, 7, 9, 10, 11, 13, 14] [12, 15] (fun W => W.cell? ⟨q, 2, none⟩ = some (.slice (some ⟨g, 0, none⟩) n cap) ∧ W.cell? ⟨g, i * 3, none⟩ = some (I64 x.id) ∧ W.cell? ⟨g, i * 3 + 1, none⟩ = some (I64 x.blk) ∧ W.cell? ⟨g, i * 3 + 2, none⟩ = some (I64 x.dl)) (by kernel_rfl) (by kernel_rfl) (HS.out _ HO2.out.drew) ?_
          simp only [List.take_succ_cons, List.take_zero, List.drop_succ_cons, List.drop_zero]
          repeat (first | ((refine wpText_h rfl rfl ?_; apply Exists.intro; refine ⟨?_, ?_⟩; next => (go_simp; (try (go_bits; go_simp)); (first | done | with_reducible rfl | (rw [if_neg (by omega)]; (try (go_bits; go_simp)); (first | done | with_reducible rfl)) | (rw [if_pos (by omega)]; (try (go_bits; go_simp)); (first | done | with_reducible rfl))))); (try simp only [Act.put, List.setIfInBounds_toArray, List.set_cons_zero, List.set_cons_succ])) | ((refine wpText_p rfl rfl ?_; apply Exists.intro; refine ⟨?_, ?_⟩; next => (intro w'; go_simp; (try (go_bits; go_simp)); (first | done | with_reducible rfl | (rw [if_neg (by omega)]; (try (go_bits; go_simp)); (first | done | with_reducible rfl)) | (rw [if_pos (by omega)]; (try (go_bits; go_simp)); (first | done | with_reducible rfl))))); (try simp only [Act.put, List.setIfInBounds_toArray, List.set_cons_zero, List.set_cons_succ])) | ((refine wpText_y rfl rfl ?_; apply Exists.intro; refine ⟨?_, ?_⟩; next => (intro w' hS; (first | obtain ⟨_, rfl⟩ := hS | skip); go_simp; (try (go_bits; go_simp)); (first | done | with_reducible rfl | (rw [if_neg (by omega)]; (try (go_bits; go_simp)); (first | done | with_reducible rfl)) | (rw [if_pos (by omega)]; (try (go_bits; go_simp)); (first | done | with_reducible rfl))))); (try simp only [Act.put, List.setIfInBounds_toArray, List.set_cons_zero, List.set_cons_succ])) | (refine wpText_skip (by first | exact .inl rfl | exact .inr (.inl rfl) | exact .inr (.inr rfl)) rfl ?_; (try simp only [Act.put, List.setIfInBounds_toArray, List.set_cons_zero, List.set_cons_succ])))
          refine wpText_e rfl rfl (fun K hK => ?_)
          go_wp2_with fail
          rw [HE1.out]
          refine (HK1.out r _ HM.out HO2.out.drew).mono ?_
          rw [HP.out]
          rintro e w3 ⟨rfl, ho3⟩
          have hB3 := ho3.blk HB.out.drew (by simp)
          have z0 := hB3.cell (i := 0) rfl
          have z1 := hB3.cell (i := 1) rfl
          have z2 := hB3.cell (i := 2) rfl
          have lz := hB3.lt
          have HO3 := hide (HO2.out.drew.trans ho3)
          clear ho3 hB3 y0 y1 y2
          refine hK _ _ (HS.out _ HO3.out) ?_
          clear hK K
          try simp only [Act.put, List.setIfInBounds_toArray, List.set_cons_zero, List.set_cons_succ]
          have hsS := HS.out _ HO3.out
          repeat (first | ((refine wpText_h rfl rfl ?_; apply Exists.intro; refine ⟨?_, ?_⟩; next => (go_simp; (try (go_bits; go_simp)); (first | done | with_reducible rfl | (rw [if_neg (by omega)]; (try (go_bits; go_simp)); (first | done | with_reducible rfl)) | (rw [if_pos (by omega)]; (try (go_bits; go_simp)); (first | done | with_reducible rfl))))); (try simp only [Act.put, List.setIfInBounds_toArray, List.set_cons_zero, List.set_cons_succ])) | ((refine wpText_p rfl rfl ?_; apply Exists.intro; refine ⟨?_, ?_⟩; next => (intro w'; go_simp; (try (go_bits; go_simp)); (first | done | with_reducible rfl | (rw [if_neg (by omega)]; (try (go_bits; go_simp)); (first | done | with_reducible rfl)) | (rw [if_pos (by omega)]; (try (go_bits; go_simp)); (first | done | with_reducible rfl))))); (try simp only [Act.put, List.setIfInBounds_toArray, List.set_cons_zero, List.set_cons_succ])) | ((refine wpText_y rfl rfl ?_; apply Exists.intro; refine ⟨?_, ?_⟩; next => (intro w' hS; (first | obtain ⟨_, rfl⟩ := hS | skip); go_simp; (try (go_bits; go_simp)); (first | done | with_reducible rfl | (rw [if_neg (by omega)]; (try (go_bits; go_simp)); (first | done | with_reducible rfl)) | (rw [if_pos (by omega)]; (try (go_bits; go_simp)); (first | done | with_reducible rfl))))); (try simp only [Act.put, List.setIfInBounds_toArray, List.set_cons_zero, List.set_cons_succ])) | (refine wpText_skip (by first | exact .inl rfl | exact .inr (.inl rfl) | exact .inr (.inr rfl)) rfl ?_; (try simp only [Act.put, List.setIfInBounds_toArray, List.set_cons_zero, List.set_cons_succ])))
          refine wpText_nil ?_
          go_wp2_with fail
          rw [HE2.out]
          refine (HK2.out r x _ HM.out HXM.out HO3.out).mono ?_
          rintro e w4 ⟨rfl, ho4⟩
          have HO4 := hide (HO3.out.trans ho4)
          clear ho4
          obtain ⟨cc, hcc⟩ : ∃ cc, cc = c r x := ⟨_, rfl⟩
          rw [← hcc]
          have HCC := hide hcc
          clear hcc
          by_cases hc0 : cc < 0
          · have hR : Hid (leastK p c Q.l (k + 1) = some k) := hide (by
              unfold leastK
              rw [HR.out]
              simp only
              rw [if_pos HP.out, HLK.out]; simp only; rw [HX.out]; simp only; rw [if_pos (by rw [← HCC.out]; exact hc0)])
            go_wp2
            refine NoX.normal ?_
            go_wp2
            go_roundw
            case rel => exact ⟨k + 1, (k : Int), by omega, by go_num, rfl, hide ⟨by rw [hR.out]; rfl, HO4.out⟩⟩
            case measure => simp [intOf]; omega
          · have hR : Hid (leastK p c Q.l (k + 1) = some i) := hide (by
              unfold leastK
              rw [HR.out]
              simp only
              rw [if_pos HP.out, HLK.out]; simp only; rw [HX.out]; simp only; rw [if_neg (by rw [← HCC.out]; exact hc0)])
            go_wp2
            refine NoX.normal ?_
            go_wp2
            go_roundw
            case rel => exact ⟨k + 1, (i : Int), by omega, by go_num, rfl, hide ⟨by rw [hR.out]; rfl, HO4.out⟩⟩
            case measure => simp [intOf]; omega
        · have HP := hide hp
          clear hp
          refine wp_region_text 16 [2] [3, 4, 5, 6, 7, 9, 10, 11, 13, 14] [12, 15] (fun W => W.cell? ⟨q, 2, none⟩ = some (.slice (some ⟨g, 0, none⟩) n cap) ∧ W.cell? ⟨g, i * 3, none⟩ = some (I64 x.id) ∧ W.cell? ⟨g, i * 3 + 1, none⟩ = some (I64 x.blk) ∧ W.cell? ⟨g, i * 3 + 2, none⟩ = some (I64 x.dl)) (by kernel_rfl) (by kernel_rfl) (HS.out _ HO2.out.drew) ?_
          simp only [List.take_succ_cons, List.take_zero, List.drop_succ_cons, List.drop_zero]
          repeat (first | ((refine wpText_h rfl rfl ?_; apply Exists.intro; refine ⟨?_, ?_⟩; next => (go_simp; (try (go_bits; go_simp)); (first | done | with_reducible rfl | (rw [if_neg (by omega)]; (try (go_bits; go_simp)); (first | done | with_reducible rfl)) | (rw [if_pos (by omega)]; (try (go_bits; go_simp)); (first | done | with_reducible rfl))))); (try simp only [Act.put, List.setIfInBounds_toArray, List.set_cons_zero, List.set_cons_succ])) | ((refine wpText_p rfl rfl ?_; apply Exists.intro; refine ⟨?_, ?_⟩; next => (intro w'; go_simp; (try (go_bits; go_simp)); (first | done | with_reducible rfl | (rw [if_neg (by omega)]; (try (go_bits; go_simp)); (first | done | with_reducible rfl)) | (rw [if_pos (by omega)]; (try (go_bits; go_simp)); (first | done | with_reducible rfl))))); (try simp only [Act.put, List.setIfInBounds_toArray, List.set_cons_zero, List.set_cons_succ])) | ((refine wpText_y rfl rfl ?_; apply Exists.intro; refine ⟨?_, ?_⟩; next => (intro w' hS; (first | obtain ⟨_, rfl⟩ := hS | skip); go_simp; (try (go_bits; go_simp)); (first | done | with_reducible rfl | (rw [if_neg (by omega)]; (try (go_bits; go_simp)); (first | done | with_reducible rfl)) | (rw [if_pos (by omega)]; (try (go_bits; go_simp)); (first | done | with_reducible rfl))))); (try simp only [Act.put, List.setIfInBounds_toArray, List.set_cons_zero, List.set_cons_succ])) | (refine wpText_skip (by first | exact .inl rfl | exact .inr (.inl rfl) | exact .inr (.inr rfl)) rfl ?_; (try simp only [Act.put, List.setIfInBounds_toArray, List.set_cons_zero, List.set_cons_succ])))
          refine wpText_e rfl rfl (fun K hK => ?_)
          go_wp2_with fail
          rw [HE1.out]
          refine (HK1.out r _ HM.out HO2.out.drew).mono ?_
          rw [HP.out]
          rintro e w3 ⟨rfl, ho3⟩
          have hB3 := ho3.blk HB.out.drew (by simp)
          have z0 := hB3.cell (i := 0) rfl
          have z1 := hB3.cell (i := 1) rfl
          have z2 := hB3.cell (i := 2) rfl
          have lz := hB3.lt
          have HO3 := hide (HO2.out.drew.trans ho3)
          clear ho3 hB3 y0 y1 y2
          refine hK _ _ (HS.out _ HO3.out) ?_
          clear hK K
          try simp only [Act.put, List.setIfInBounds_toArray, List.set_cons_zero, List.set_cons_succ]
          have hsS := HS.out _ HO3.out
          repeat (first | ((refine wpText_h rfl rfl ?_; apply Exists.intro; refine ⟨?_, ?_⟩; next => (go_simp; (try (go_bits; go_simp)); (first | done | with_reducible rfl | (rw [if_neg (by omega)]; (try (go_bits; go_simp)); (first | done | with_reducible rfl)) | (rw [if_pos (by omega)]; (try (go_bits; go_simp)); (first | done | with_reducible rfl))))); (try simp only [Act.put, List.setIfInBounds_toArray, List.set_cons_zero, List.set_cons_succ])) | ((refine wpText_p rfl rfl ?_; apply Exists.intro; refine ⟨?_, ?_⟩; next => (intro w'; go_simp; (try (go_bits; go_simp)); (first | done | with_reducible rfl | (rw [if_neg (by omega)]; (try (go_bits; go_simp)); (first | done | with_reducible rfl)) | (rw [if_pos (by omega)]; (try (go_bits; go_simp)); (first | done | with_reducible rfl))))); (try simp only [Act.put, List.setIfInBounds_toArray, List.set_cons_zero, List.set_cons_succ])) | ((refine wpText_y rfl rfl ?_; apply Exists.intro; refine ⟨?_, ?_⟩; next => (intro w' hS; (first | obtain ⟨_, rfl⟩ := hS | skip); go_simp; (try (go_bits; go_simp)); (first | done | with_reducible rfl | (rw [if_neg (by omega)]; (try (go_bits; go_simp)); (first | done | with_reducible rfl)) | (rw [if_pos (by omega)]; (try (go_bits; go_simp)); (first | done | with_reducible rfl))))); (try simp only [Act.put, List.setIfInBounds_toArray, List.set_cons_zero, List.set_cons_succ])) | (refine wpText_skip (by first | exact .inl rfl | exact .inr (.inl rfl) | exact .inr (.inr rfl)) rfl ?_; (try simp only [Act.put, List.setIfInBounds_toArray, List.set_cons_zero, List.set_cons_succ])))
          refine wpText_nil ?_
          have hR : Hid (leastK p c Q.l (k + 1) = some i) := hide (by
            unfold leastK
            rw [HR.out]
            simp only
            rw [if_neg (by rw [HP.out]; decide), HLK.out])
          go_wp2
          refine NoX.normal ?_
          go_wp2
          go_roundw
          case rel => exact ⟨k + 1, (i : Int), by omega, by go_num, rfl, hide ⟨by rw [hR.out]; rfl, HO3.out⟩⟩
          case measure => simp [intOf]; omega
    · obtain rfl : k = n := by omega
      have hR : Hid (a = ixI (leastK p c Q.l k)) := hide HI.out.1
      go_wp2
      go_ret
      rw [← hR.out]
      exact ⟨rfl, HI.out.2⟩

end Go.Proofs.Ytabdahojgmbgdaa
