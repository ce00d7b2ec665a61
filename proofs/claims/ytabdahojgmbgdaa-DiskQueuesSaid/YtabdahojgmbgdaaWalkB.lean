/- What becomes of a write: lose, whole, front, back. -/
import Derived.Test.YtabdahojgmbgdaaWalkA
namespace Go.Proofs.Ytabdahojgmbgdaa
open Go.RowKit

def fate (n : Nat) (old new : List Nat) : List Nat :=
  if n % 4 = 0 then old else if n % 4 = 1 then new else if n % 4 = 2 then new.take 32 ++ old.drop 32 else old.take 32 ++ new.drop 32
theorem fate_len {n : Nat} {old new : List Nat} (h1 : old.length = 64) (h2 : new.length = 64) : (fate n old new).length = 64 := by
  unfold fate
  split
  · exact h1
  · split
    · exact h2
    · split <;> simp [h1, h2]
def Dk.fated (D : Dk) (n : Nat) (x : WB) : Dk := { D with bs := D.bs.set x.1 (fate n (D.bs.getD x.1 []) x.2) }

/-- Cells are laid over a part of one of equal parts. -/
theorem flat_part : ∀ (bs : List (List Nat)) (_ : ∀ b ∈ bs, b.length = 64) (k i : Nat) (vs old : List Nat), bs[k]? = some old → i + vs.length ≤ 64 →
    (bs.flatMap bcells).take (k * 64 + i) ++ bcells vs ++ (bs.flatMap bcells).drop (k * 64 + i + (bcells vs).length) = (bs.set k (old.take i ++ vs ++ old.drop (i + vs.length))).flatMap bcells
  | [], _, k, i, vs, old, h, _ => by simp at h
  | x :: xs, hs, 0, i, vs, old, h, hi => by
    have h1 := hs x (by simp)
    obtain rfl : x = old := by simpa using h
    rw [List.set_cons_zero, List.flatMap_cons, List.flatMap_cons, Nat.zero_mul, Nat.zero_add, bcells_len, List.take_append_of_le_length (by rw [bcells_len]; omega), List.drop_append_of_le_length (by rw [bcells_len]; omega),
      bcells_app, bcells_app, ← bcells_take, ← bcells_drop]
    simp
  | x :: xs, hs, k + 1, i, vs, old, h, hi => by
    have h1 := hs x (by simp)
    rw [List.set_cons_succ, List.flatMap_cons, List.flatMap_cons, ← flat_part xs (fun x hx => hs x (by simp [hx])) k i vs old (by simpa using h) hi,
      show (k + 1) * 64 + i = (bcells x).length + (k * 64 + i) by rw [bcells_len, h1]; omega, Nat.add_assoc, List.take_length_add_append, List.drop_length_add_append]
    simp [List.append_assoc]

theorem DkAt.patch {base : Nat} {w w' : World} {p : DP} {D : Dk} (h : DkAt base w p D) {k i : Nat} {vs old : List Nat} (hk : D.bs[k]? = some old) (hv : i + vs.length ≤ 64) {g o c : Nat} {cs : List Value} (hvb : p.vb = .slice (some ⟨g, o, none⟩) D.bs.length c)
    (hb : Blk w g blkT cs) (hs : Blk w' g blkT (cs.take (o + (k * 64 + i)) ++ bcells vs ++ cs.drop (o + (k * 64 + i) + (bcells vs).length))) (ho : Only [g] w w') : DkAt base w' p { D with bs := D.bs.set k (old.take i ++ vs ++ old.drop (i + vs.length)) } := by
  have hk2 := (List.getElem?_eq_some_iff.1 hk).1
  have hm : old ∈ D.bs := List.mem_of_getElem? hk
  have hob : Only p.vb.ownBlock.toList w w' := ho.mono (by intro j hj _; simp at hj; subst hj; rw [hvb]; simp [Value.ownBlock])
  have hgd : p.d ∉ [g] := by simpa using h.me.ne hb (by decide)
  have hK := h.ok
  refine ⟨ho.blk h.me hgd, ?_, off_apart h.cr h.br (by decide) hob, off_apart h.sr h.br (by decide) hob, ⟨?_, ?_, ?_, ?_, hK.cm, hK.sm, hK.s8, hK.lf⟩⟩
  · have h1 := off_stored h.br hvb (p := k * 64 + i) hb hs (by rw [bcells_len]; omega)
    rw [flat_part D.bs hK.hb k i vs old hk hv] at h1
    simpa using h1
  · intro b hb
    rcases List.mem_or_eq_of_mem_set hb with h1 | rfl
    · exact hK.hb b h1
    · have := hK.hb old hm
      simp; omega
  · intro x hx
    have := hK.hc x hx
    simpa using this
  · simpa using hK.pos
  · simpa using hK.most

/-- What one of the four answers. -/
def FateS (base : Nat) (p : DP) (D : Dk) (x : WB) (n : Nat) (w : World) (e : Ending) (w' : World) : Prop :=
  e = .returned (.tuple #[]) ∧ DkAt base w' p (D.fated n x) ∧ Only p.vb.ownBlock.toList w w'

theorem fated_of {D : Dk} {x : WB} {n : Nat} {old l : List Nat} (hk : D.bs[x.1]? = some old) (h : fate n old x.2 = l) : D.fated n x = { D with bs := D.bs.set x.1 l } := by
  unfold Dk.fated
  rw [List.getD_eq_getElem?_getD, hk]
  simp [h]

theorem addr_add (b o j : Nat) : (⟨b, o, none⟩ : Addr).add j = ⟨b, o + j, none⟩ := by
  unfold Addr.add
  split <;> simp_all
theorem wcell_whole {x : WB} {j : Nat} {v : Value} (h : (bcells x.2)[j]? = some v) : (wcell x)[1 + j]? = some v := by
  rw [Nat.add_comm]; exact h
theorem wcell_front {x : WB} {j : Nat} {v : Value} (h : (bcells (x.2.take 32))[j]? = some v) : (wcell x)[1 + j]? = some v := by
  rw [← bcells_take, List.getElem?_take] at h
  split at h
  · rw [Nat.add_comm]; exact h
  · cases h
theorem wcell_back {x : WB} {j : Nat} {v : Value} (h : (bcells (x.2.drop 32))[j]? = some v) : (wcell x)[33 + j]? = some v := by
  rw [← bcells_drop, List.getElem?_drop] at h
  rw [show 33 + j = 32 + j + 1 by omega]; exact h

set_option maxHeartbeats 1000000 in
theorem lose_ok (base : Nat) (w : World) (p : DP) (D : Dk) (x : WB) (h : DkAt base w p D) (hx : x.1 < D.bs.length) (hl : x.2.length = 64) :
    Calls Try.prog 48 #[.pointer (some ⟨p.d, 0, none⟩), .agg (wcell x).toArray] w (FateS base p D x 0 w) := by
  obtain ⟨cs, hcs⟩ : ∃ cs, cs = wcell x := ⟨_, rfl⟩
  rw [← hcs]
  have ho : Only [] w (w.alloc (.cells cs.toArray wrT)) := (Only.refl _ _).alloc _
  have HF : Hid (D.fated 0 x = D) := hide (by
    rw [fated_of (List.getElem?_eq_getElem hx) (l := D.bs[x.1]'hx) (by simp [fate])]
    simp)
  have H := hide h
  clear h hcs
  go_enter Try.func48, Try.ntmps48
  go_wp2
  go_end0
  refine ⟨rfl, ?_, ho.mono (by simp)⟩
  rw [HF.out]
  exact H.out.keep ho

set_option maxHeartbeats 1000000 in
theorem whole_ok (base : Nat) (w : World) (p : DP) (D : Dk) (x : WB) (h : DkAt base w p D) (hx : x.1 < D.bs.length) (hl : x.2.length = 64) :
    Calls Try.prog 47 #[.pointer (some ⟨p.d, 0, none⟩), .agg (wcell x).toArray] w (FateS base p D x 1 w) := by
  obtain ⟨g, o, c, cells, hv, hbk, hfit, -⟩ := h.ptr
  obtain ⟨n, hn⟩ : ∃ n, n = D.bs.length := ⟨_, rfl⟩
  have hme := h.me
  unfold Dk.cells at hme
  rw [hv, ← hn] at hme
  obtain ⟨cs, hcs⟩ : ∃ cs, cs = wcell x := ⟨_, rfl⟩
  rw [← hcs]
  have ho : Only [] w (w.alloc (.cells cs.toArray wrT)) := (Only.refl _ _).alloc _
  have hbx : Blk (w.alloc (.cells cs.toArray wrT)) w.heap.size wrT cs := Blk.newA rfl
  have b0 := hbx.cell (i := 0) (v := I64 (x.1 : Nat)) (by rw [hcs]; rfl)
  have c0 := (hme.alloc (.cells cs.toArray wrT)).cell (i := 0) rfl
  have hlb := hbx.lt
  have hld := (hme.alloc (.cells cs.toArray wrT)).lt
  have hold : D.bs[x.1]? = some (D.bs[x.1]'hx) := List.getElem?_eq_getElem hx
  have hlo : (D.bs[x.1]'hx).length = 64 := h.ok.hb _ (List.getElem_mem hx)
  obtain ⟨old, hol⟩ : ∃ old, old = D.bs[x.1]'hx := ⟨_, rfl⟩
  rw [← hol] at hold hlo
  have hvl : (x.2).length = 64 := by simp [hl]
  have HB1 : Hid (∀ j v, (bcells (x.2))[j]? = some v → (w.alloc (.cells cs.toArray wrT)).cell? ⟨w.heap.size, 1 + j, none⟩ = some v) := hide (fun j v hj => hbx.cell (by rw [hcs]; exact wcell_whole hj))
  have HL : Hid ((bcells (x.2)).length = 64) := hide (by rw [bcells_len]; exact hvl)
  have H1 : Hid (∀ v ∈ bcells (x.2), v.oneCell' = true) := hide (bcells_one _)
  obtain ⟨vs, hvs⟩ : ∃ vs, vs = bcells (x.2) := ⟨_, rfl⟩
  rw [← hvs] at HB1 HL H1
  have hx0 : (0 : Int) ≤ (x.1 : Nat) := by omega
  have hx1 : ((x.1 : Nat) : Int) < (n : Int) := by omega
  have HG := hide (hbk.alloc (.cells cs.toArray wrT))
  have HP : Hid (o + x.1 * 64 + 64 ≤ cells.length) := hide (by omega)
  have HF : Hid (D.fated 1 x = { D with bs := D.bs.set x.1 (old.take 0 ++ x.2 ++ old.drop (0 + (x.2).length)) }) := hide (by
    rw [fated_of hold (l := old.take 0 ++ x.2 ++ old.drop (0 + (x.2).length)) ?_]
    rw [hvl]
    rw [List.drop_of_length_le (by omega)]; simp [fate])
  have H := hide h
  have HV := hide hv
  have HO := hide ho
  have HVS := hide hvs
  have HX := hide hvl
  have HOL := hide hold
  clear h hcs hme hbk ho hv hn hvs hbx hfit hol hlo hvl hold
  go_enter Try.func47, Try.ntmps47
  go_wp2
  refine wp_region_text 9 [] [] [] (fun _ => True) (by kernel_rfl) (by kernel_rfl) trivial ?_
  simp only [List.take_succ_cons, List.take_zero, List.drop_succ_cons, List.drop_zero]
  iterate 7 (first | ((refine wpText_h rfl rfl ?_; apply Exists.intro; refine ⟨?_, ?_⟩; next => (go_simp; (try (go_bits; go_simp)); (first | done | with_reducible rfl | (rw [if_neg (by omega)]; (try (go_bits; go_simp)); (first | done | with_reducible rfl)) | (rw [if_pos (by omega)]; (try (go_bits; go_simp)); (first | done | with_reducible rfl))))); (try simp only [Act.put, List.setIfInBounds_toArray, List.set_cons_zero, List.set_cons_succ])) | ((refine wpText_p rfl rfl ?_; apply Exists.intro; refine ⟨?_, ?_⟩; next => (intro w'; go_simp; (try (go_bits; go_simp)); (first | done | with_reducible rfl | (rw [if_neg (by omega)]; (try (go_bits; go_simp)); (first | done | with_reducible rfl)) | (rw [if_pos (by omega)]; (try (go_bits; go_simp)); (first | done | with_reducible rfl))))); (try simp only [Act.put, List.setIfInBounds_toArray, List.set_cons_zero, List.set_cons_succ])) | ((refine wpText_y rfl rfl ?_; apply Exists.intro; refine ⟨?_, ?_⟩; next => (intro w' hS; (first | obtain ⟨_, rfl⟩ := hS | skip); go_simp; (try (go_bits; go_simp)); (first | done | with_reducible rfl | (rw [if_neg (by omega)]; (try (go_bits; go_simp)); (first | done | with_reducible rfl)) | (rw [if_pos (by omega)]; (try (go_bits; go_simp)); (first | done | with_reducible rfl))))); (try simp only [Act.put, List.setIfInBounds_toArray, List.set_cons_zero, List.set_cons_succ])) | (refine wpText_skip (by first | exact .inl rfl | exact .inr (.inl rfl) | exact .inr (.inr rfl)) rfl ?_; (try simp only [Act.put, List.setIfInBounds_toArray, List.set_cons_zero, List.set_cons_succ])))
  refine wpText_h rfl rfl ⟨.agg vs.toArray, ?_, ?_⟩
  · exact exec_load_cells blkT (.tmp 10) rfl w.heap.size 1 rfl vs (d := _) HB1.out Try.underlying49 rfl (by rw [HL.out]; kernel_rfl)
  try simp only [Act.put, List.setIfInBounds_toArray, List.set_cons_zero, List.set_cons_succ]
  repeat (first | ((refine wpText_h rfl rfl ?_; apply Exists.intro; refine ⟨?_, ?_⟩; next => (go_simp; (try (go_bits; go_simp)); (first | done | with_reducible rfl | (rw [if_neg (by omega)]; (try (go_bits; go_simp)); (first | done | with_reducible rfl)) | (rw [if_pos (by omega)]; (try (go_bits; go_simp)); (first | done | with_reducible rfl))))); (try simp only [Act.put, List.setIfInBounds_toArray, List.set_cons_zero, List.set_cons_succ])) | ((refine wpText_p rfl rfl ?_; apply Exists.intro; refine ⟨?_, ?_⟩; next => (intro w'; go_simp; (try (go_bits; go_simp)); (first | done | with_reducible rfl | (rw [if_neg (by omega)]; (try (go_bits; go_simp)); (first | done | with_reducible rfl)) | (rw [if_pos (by omega)]; (try (go_bits; go_simp)); (first | done | with_reducible rfl))))); (try simp only [Act.put, List.setIfInBounds_toArray, List.set_cons_zero, List.set_cons_succ])) | ((refine wpText_y rfl rfl ?_; apply Exists.intro; refine ⟨?_, ?_⟩; next => (intro w' hS; (first | obtain ⟨_, rfl⟩ := hS | skip); go_simp; (try (go_bits; go_simp)); (first | done | with_reducible rfl | (rw [if_neg (by omega)]; (try (go_bits; go_simp)); (first | done | with_reducible rfl)) | (rw [if_pos (by omega)]; (try (go_bits; go_simp)); (first | done | with_reducible rfl))))); (try simp only [Act.put, List.setIfInBounds_toArray, List.set_cons_zero, List.set_cons_succ])) | (refine wpText_skip (by first | exact .inl rfl | exact .inr (.inl rfl) | exact .inr (.inr rfl)) rfl ?_; (try simp only [Act.put, List.setIfInBounds_toArray, List.set_cons_zero, List.set_cons_succ])))
  refine wpText_nil ?_
  refine wpList_store_cells rfl blkT (.tmp 12) (.tmp 11) rfl g (o + (x.1 * 64 + 0)) rfl vs rfl blkT cells HG.out.drew (by have := HP.out; rw [HL.out]; omega) (by rw [HL.out]; kernel_rfl) H1.out ?_
  rintro w1 ⟨hw, hw2, -⟩
  have hob : ∀ {A B : World}, Only [g] A B → Only p.vb.ownBlock.toList A B := fun h => h.mono (by intro j hj _; simp at hj; subst hj; rw [HV.out]; simp [Value.ownBlock])
  have hD := (H.out.keep HO.out.drew).patch (i := 0) (vs := x.2) HOL.out (by rw [HX.out]; decide) HV.out HG.out.drew (by rw [← HVS.out]; exact hw) hw2
  refine NoX.normal ?_
  go_end0
  unfold FateS
  rw [HF.out]
  exact ⟨rfl, hD, hob ((HO.out.drew.mono (by simp)).trans hw2)⟩

set_option maxHeartbeats 1000000 in
theorem front_ok (base : Nat) (w : World) (p : DP) (D : Dk) (x : WB) (h : DkAt base w p D) (hx : x.1 < D.bs.length) (hl : x.2.length = 64) :
    Calls Try.prog 49 #[.pointer (some ⟨p.d, 0, none⟩), .agg (wcell x).toArray] w (FateS base p D x 2 w) := by
  obtain ⟨g, o, c, cells, hv, hbk, hfit, -⟩ := h.ptr
  obtain ⟨n, hn⟩ : ∃ n, n = D.bs.length := ⟨_, rfl⟩
  have hme := h.me
  unfold Dk.cells at hme
  rw [hv, ← hn] at hme
  obtain ⟨cs, hcs⟩ : ∃ cs, cs = wcell x := ⟨_, rfl⟩
  rw [← hcs]
  have ho : Only [] w (w.alloc (.cells cs.toArray wrT)) := (Only.refl _ _).alloc _
  have hbx : Blk (w.alloc (.cells cs.toArray wrT)) w.heap.size wrT cs := Blk.newA rfl
  have b0 := hbx.cell (i := 0) (v := I64 (x.1 : Nat)) (by rw [hcs]; rfl)
  have c0 := (hme.alloc (.cells cs.toArray wrT)).cell (i := 0) rfl
  have hlb := hbx.lt
  have hld := (hme.alloc (.cells cs.toArray wrT)).lt
  have hold : D.bs[x.1]? = some (D.bs[x.1]'hx) := List.getElem?_eq_getElem hx
  have hlo : (D.bs[x.1]'hx).length = 64 := h.ok.hb _ (List.getElem_mem hx)
  obtain ⟨old, hol⟩ : ∃ old, old = D.bs[x.1]'hx := ⟨_, rfl⟩
  rw [← hol] at hold hlo
  have hvl : (x.2.take 32).length = 32 := by simp [hl]
  have HB1 : Hid (∀ j v, (bcells (x.2.take 32))[j]? = some v → (w.alloc (.cells cs.toArray wrT)).cell? ⟨w.heap.size, 1 + j, none⟩ = some v) := hide (fun j v hj => hbx.cell (by rw [hcs]; exact wcell_front hj))
  have HL : Hid ((bcells (x.2.take 32)).length = 32) := hide (by rw [bcells_len]; exact hvl)
  have H1 : Hid (∀ v ∈ bcells (x.2.take 32), v.oneCell' = true) := hide (bcells_one _)
  obtain ⟨vs, hvs⟩ : ∃ vs, vs = bcells (x.2.take 32) := ⟨_, rfl⟩
  rw [← hvs] at HB1 HL H1
  have hx0 : (0 : Int) ≤ (x.1 : Nat) := by omega
  have hx1 : ((x.1 : Nat) : Int) < (n : Int) := by omega
  have HG := hide (hbk.alloc (.cells cs.toArray wrT))
  have HP : Hid (o + x.1 * 64 + 64 ≤ cells.length) := hide (by omega)
  have HF : Hid (D.fated 2 x = { D with bs := D.bs.set x.1 (old.take 0 ++ x.2.take 32 ++ old.drop (0 + (x.2.take 32).length)) }) := hide (by
    rw [fated_of hold (l := old.take 0 ++ x.2.take 32 ++ old.drop (0 + (x.2.take 32).length)) ?_]
    rw [hvl]
    simp [fate])
  have H := hide h
  have HV := hide hv
  have HO := hide ho
  have HVS := hide hvs
  have HX := hide hvl
  have HOL := hide hold
  clear h hcs hme hbk ho hv hn hvs hbx hfit hol hlo hvl hold
  go_enter Try.func49, Try.ntmps49
  go_wp2
  refine wp_region_text 10 [] [] [] (fun _ => True) (by kernel_rfl) (by kernel_rfl) trivial ?_
  simp only [List.take_succ_cons, List.take_zero, List.drop_succ_cons, List.drop_zero]
  repeat (first | ((refine wpText_h rfl rfl ?_; apply Exists.intro; refine ⟨?_, ?_⟩; next => (go_simp; (try (go_bits; go_simp)); (first | done | with_reducible rfl | (rw [if_neg (by omega)]; (try (go_bits; go_simp)); (first | done | with_reducible rfl)) | (rw [if_pos (by omega)]; (try (go_bits; go_simp)); (first | done | with_reducible rfl))))); (try simp only [Act.put, List.setIfInBounds_toArray, List.set_cons_zero, List.set_cons_succ])) | ((refine wpText_p rfl rfl ?_; apply Exists.intro; refine ⟨?_, ?_⟩; next => (intro w'; go_simp; (try (go_bits; go_simp)); (first | done | with_reducible rfl | (rw [if_neg (by omega)]; (try (go_bits; go_simp)); (first | done | with_reducible rfl)) | (rw [if_pos (by omega)]; (try (go_bits; go_simp)); (first | done | with_reducible rfl))))); (try simp only [Act.put, List.setIfInBounds_toArray, List.set_cons_zero, List.set_cons_succ])) | ((refine wpText_y rfl rfl ?_; apply Exists.intro; refine ⟨?_, ?_⟩; next => (intro w' hS; (first | obtain ⟨_, rfl⟩ := hS | skip); go_simp; (try (go_bits; go_simp)); (first | done | with_reducible rfl | (rw [if_neg (by omega)]; (try (go_bits; go_simp)); (first | done | with_reducible rfl)) | (rw [if_pos (by omega)]; (try (go_bits; go_simp)); (first | done | with_reducible rfl))))); (try simp only [Act.put, List.setIfInBounds_toArray, List.set_cons_zero, List.set_cons_succ])) | (refine wpText_skip (by first | exact .inl rfl | exact .inr (.inl rfl) | exact .inr (.inr rfl)) rfl ?_; (try simp only [Act.put, List.setIfInBounds_toArray, List.set_cons_zero, List.set_cons_succ])))
  refine wpText_nil ?_
  have hcp := setRow_heap (w.alloc (.cells cs.toArray wrT)).drew g cells.toArray (cells.take (o + (x.1 * 64 + 0)) ++ (vs ++ cells.drop (o + (x.1 * 64 + 0) + vs.length))).toArray blkT (0, 0) HG.out.drew
  refine wpList_copy_own rfl (.tmp 11) (.tmp 13) 39 39 rfl u8T Try.underlying39 (by kernel_rfl) g (o + (x.1 * 64 + 0)) 32 64 ⟨w.heap.size, 1, none⟩ 32 64 rfl rfl cells.toArray blkT HG.out.drew vs (by rw [HL.out]; rfl) (by intro j v hj; rw [addr_add]; exact HB1.out j v hj) (by have := HP.out; rw [HL.out, List.size_toArray]; omega) H1.out ?_
  have hw : Blk ((w.alloc (.cells cs.toArray wrT)).drew.setRow g (cells.take (o + (x.1 * 64 + 0)) ++ (vs ++ cells.drop (o + (x.1 * 64 + 0) + vs.length))).toArray) g blkT (cells.take (o + (x.1 * 64 + 0)) ++ vs ++ cells.drop (o + (x.1 * 64 + 0) + vs.length)) := by
    rw [List.append_assoc]; exact hcp
  have hw2 : Only [g] (w.alloc (.cells cs.toArray wrT)).drew ((w.alloc (.cells cs.toArray wrT)).drew.setRow g (cells.take (o + (x.1 * 64 + 0)) ++ (vs ++ cells.drop (o + (x.1 * 64 + 0) + vs.length))).toArray) :=
    ⟨rfl, rfl, rfl, by simp, fun k hk hn => setRow_other _ g k _ (by simpa using hn)⟩
  clear hcp
  have hob : ∀ {A B : World}, Only [g] A B → Only p.vb.ownBlock.toList A B := fun h => h.mono (by intro j hj _; simp at hj; subst hj; rw [HV.out]; simp [Value.ownBlock])
  have hD := (H.out.keep HO.out.drew).patch (i := 0) (vs := x.2.take 32) HOL.out (by rw [HX.out]; decide) HV.out HG.out.drew (by rw [← HVS.out]; exact hw) hw2
  refine NoX.normal ?_
  go_end0
  unfold FateS
  rw [HF.out]
  exact ⟨rfl, hD, hob ((HO.out.drew.mono (by simp)).trans hw2)⟩

set_option maxHeartbeats 1000000 in
theorem back_ok (base : Nat) (w : World) (p : DP) (D : Dk) (x : WB) (h : DkAt base w p D) (hx : x.1 < D.bs.length) (hl : x.2.length = 64) :
    Calls Try.prog 50 #[.pointer (some ⟨p.d, 0, none⟩), .agg (wcell x).toArray] w (FateS base p D x 3 w) := by
  obtain ⟨g, o, c, cells, hv, hbk, hfit, -⟩ := h.ptr
  obtain ⟨n, hn⟩ : ∃ n, n = D.bs.length := ⟨_, rfl⟩
  have hme := h.me
  unfold Dk.cells at hme
  rw [hv, ← hn] at hme
  obtain ⟨cs, hcs⟩ : ∃ cs, cs = wcell x := ⟨_, rfl⟩
  rw [← hcs]
  have ho : Only [] w (w.alloc (.cells cs.toArray wrT)) := (Only.refl _ _).alloc _
  have hbx : Blk (w.alloc (.cells cs.toArray wrT)) w.heap.size wrT cs := Blk.newA rfl
  have b0 := hbx.cell (i := 0) (v := I64 (x.1 : Nat)) (by rw [hcs]; rfl)
  have c0 := (hme.alloc (.cells cs.toArray wrT)).cell (i := 0) rfl
  have hlb := hbx.lt
  have hld := (hme.alloc (.cells cs.toArray wrT)).lt
  have hold : D.bs[x.1]? = some (D.bs[x.1]'hx) := List.getElem?_eq_getElem hx
  have hlo : (D.bs[x.1]'hx).length = 64 := h.ok.hb _ (List.getElem_mem hx)
  obtain ⟨old, hol⟩ : ∃ old, old = D.bs[x.1]'hx := ⟨_, rfl⟩
  rw [← hol] at hold hlo
  have hvl : (x.2.drop 32).length = 32 := by simp [hl]
  have HB1 : Hid (∀ j v, (bcells (x.2.drop 32))[j]? = some v → (w.alloc (.cells cs.toArray wrT)).cell? ⟨w.heap.size, 33 + j, none⟩ = some v) := hide (fun j v hj => hbx.cell (by rw [hcs]; exact wcell_back hj))
  have HL : Hid ((bcells (x.2.drop 32)).length = 32) := hide (by rw [bcells_len]; exact hvl)
  have H1 : Hid (∀ v ∈ bcells (x.2.drop 32), v.oneCell' = true) := hide (bcells_one _)
  obtain ⟨vs, hvs⟩ : ∃ vs, vs = bcells (x.2.drop 32) := ⟨_, rfl⟩
  rw [← hvs] at HB1 HL H1
  have hx0 : (0 : Int) ≤ (x.1 : Nat) := by omega
  have hx1 : ((x.1 : Nat) : Int) < (n : Int) := by omega
  have HG := hide (hbk.alloc (.cells cs.toArray wrT))
  have HP : Hid (o + x.1 * 64 + 64 ≤ cells.length) := hide (by omega)
  have HF : Hid (D.fated 3 x = { D with bs := D.bs.set x.1 (old.take 32 ++ x.2.drop 32 ++ old.drop (32 + (x.2.drop 32).length)) }) := hide (by
    rw [fated_of hold (l := old.take 32 ++ x.2.drop 32 ++ old.drop (32 + (x.2.drop 32).length)) ?_]
    rw [hvl]
    rw [List.drop_of_length_le (i := 32 + 32) (by omega)]; simp [fate])
  have H := hide h
  have HV := hide hv
  have HO := hide ho
  have HVS := hide hvs
  have HX := hide hvl
  have HOL := hide hold
  clear h hcs hme hbk ho hv hn hvs hbx hfit hol hlo hvl hold
  go_enter Try.func50, Try.ntmps50
  go_wp2
  refine wp_region_text 10 [] [] [] (fun _ => True) (by kernel_rfl) (by kernel_rfl) trivial ?_
  simp only [List.take_succ_cons, List.take_zero, List.drop_succ_cons, List.drop_zero]
  repeat (first | ((refine wpText_h rfl rfl ?_; apply Exists.intro; refine ⟨?_, ?_⟩; next => (go_simp; (try (go_bits; go_simp)); (first | done | with_reducible rfl | (rw [if_neg (by omega)]; (try (go_bits; go_simp)); (first | done | with_reducible rfl)) | (rw [if_pos (by omega)]; (try (go_bits; go_simp)); (first | done | with_reducible rfl))))); (try simp only [Act.put, List.setIfInBounds_toArray, List.set_cons_zero, List.set_cons_succ])) | ((refine wpText_p rfl rfl ?_; apply Exists.intro; refine ⟨?_, ?_⟩; next => (intro w'; go_simp; (try (go_bits; go_simp)); (first | done | with_reducible rfl | (rw [if_neg (by omega)]; (try (go_bits; go_simp)); (first | done | with_reducible rfl)) | (rw [if_pos (by omega)]; (try (go_bits; go_simp)); (first | done | with_reducible rfl))))); (try simp only [Act.put, List.setIfInBounds_toArray, List.set_cons_zero, List.set_cons_succ])) | ((refine wpText_y rfl rfl ?_; apply Exists.intro; refine ⟨?_, ?_⟩; next => (intro w' hS; (first | obtain ⟨_, rfl⟩ := hS | skip); go_simp; (try (go_bits; go_simp)); (first | done | with_reducible rfl | (rw [if_neg (by omega)]; (try (go_bits; go_simp)); (first | done | with_reducible rfl)) | (rw [if_pos (by omega)]; (try (go_bits; go_simp)); (first | done | with_reducible rfl))))); (try simp only [Act.put, List.setIfInBounds_toArray, List.set_cons_zero, List.set_cons_succ])) | (refine wpText_skip (by first | exact .inl rfl | exact .inr (.inl rfl) | exact .inr (.inr rfl)) rfl ?_; (try simp only [Act.put, List.setIfInBounds_toArray, List.set_cons_zero, List.set_cons_succ])))
  refine wpText_nil ?_
  have hcp := setRow_heap (w.alloc (.cells cs.toArray wrT)).drew g cells.toArray (cells.take (o + (x.1 * 64 + 32)) ++ (vs ++ cells.drop (o + (x.1 * 64 + 32) + vs.length))).toArray blkT (0, 0) HG.out.drew
  refine wpList_copy_own rfl (.tmp 11) (.tmp 13) 39 39 rfl u8T Try.underlying39 (by kernel_rfl) g (o + (x.1 * 64 + 32)) 32 32 ⟨w.heap.size, 33, none⟩ 32 32 rfl rfl cells.toArray blkT HG.out.drew vs (by rw [HL.out]; rfl) (by intro j v hj; rw [addr_add]; exact HB1.out j v hj) (by have := HP.out; rw [HL.out, List.size_toArray]; omega) H1.out ?_
  have hw : Blk ((w.alloc (.cells cs.toArray wrT)).drew.setRow g (cells.take (o + (x.1 * 64 + 32)) ++ (vs ++ cells.drop (o + (x.1 * 64 + 32) + vs.length))).toArray) g blkT (cells.take (o + (x.1 * 64 + 32)) ++ vs ++ cells.drop (o + (x.1 * 64 + 32) + vs.length)) := by
    rw [List.append_assoc]; exact hcp
  have hw2 : Only [g] (w.alloc (.cells cs.toArray wrT)).drew ((w.alloc (.cells cs.toArray wrT)).drew.setRow g (cells.take (o + (x.1 * 64 + 32)) ++ (vs ++ cells.drop (o + (x.1 * 64 + 32) + vs.length))).toArray) :=
    ⟨rfl, rfl, rfl, by simp, fun k hk hn => setRow_other _ g k _ (by simpa using hn)⟩
  clear hcp
  have hob : ∀ {A B : World}, Only [g] A B → Only p.vb.ownBlock.toList A B := fun h => h.mono (by intro j hj _; simp at hj; subst hj; rw [HV.out]; simp [Value.ownBlock])
  have hD := (H.out.keep HO.out.drew).patch (i := 32) (vs := x.2.drop 32) HOL.out (by rw [HX.out]; decide) HV.out HG.out.drew (by rw [← HVS.out]; exact hw) hw2
  refine NoX.normal ?_
  go_end0
  unfold FateS
  rw [HF.out]
  exact ⟨rfl, hD, hob ((HO.out.drew.mono (by simp)).trans hw2)⟩

end Go.Proofs.Ytabdahojgmbgdaa
