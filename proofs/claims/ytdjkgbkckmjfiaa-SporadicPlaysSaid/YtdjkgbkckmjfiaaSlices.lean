/- Slices of numbers, and what the server's blocks keep beside them. -/
import Derived.Test.YtdjkgbkckmjfiaaWalkF
import Derived.Laws.AppendOwn
import Derived.Laws.OwnMore
import Derived.OwnWalk
namespace Go.Proofs.Ytdjkgbkckmjfiaa
open Go.RowKit

/-- A slice value below block B whose cells read as these numbers of kind kd. -/
def Reads (w : World) (B : Nat) (kd : IntKind) (A : Option Addr) (xs : List Int) : Prop :=
  ∀ k x, xs[k]? = some x → ∃ b o, A = some ⟨b, o, none⟩ ∧ b < B ∧ w.cell? ⟨b, o + k, none⟩ = some (.int kd x)
theorem Reads.only {S : List Nat} {w w' : World} {B : Nat} {kd : IntKind} {A : Option Addr} {xs : List Int} (h : Reads w B kd A xs) (hb : Only S w w') (hB : B ≤ w.heap.size) (hS : ∀ k, k ∈ S → B ≤ k) : Reads w' B kd A xs := by
  intro k x hx
  obtain ⟨b, o, hA, hlt, hc⟩ := h k x hx
  exact ⟨b, o, hA, hlt, by rw [World.cell?_of_block (w := w) (hb.block b (by omega) (fun hm => by have := hS b hm; omega))]; exact hc⟩

theorem own_ne_blk {w : World} {base : Nat} {e t : TypeId} {size n : Nat} {v : Value} {xs : List Value} {g : Nat} {cs : List Value} (h : w.ownsRow base e size v n xs) (hg : Blk w g t cs) (hne : e ≠ t) : v.ownBlock ≠ some g := by
  rcases h.2 with ⟨rfl, _⟩ | ⟨g', cap, cur, rfl, _, hh, _⟩
  · simp [Value.ownBlock]
  · intro he
    have : g' = g := by simpa [Value.ownBlock] using he
    subst this
    unfold Blk at hg
    rw [hg] at hh
    injection hh with hh
    injection hh with _ ht
    exact hne ht.symm
theorem SrvIs.grown {w w' : World} {b g bs : Nat} {s : Srv} {row : Option Nat} (h : SrvIs w b g bs s) (hg : w.grownBy w' row) (hr : ∀ k, row = some k → k ≠ b ∧ k ≠ g ∧ k ≠ bs) : SrvIs w' b g bs s := by
  obtain ⟨fr, buf, me, bufb, box, ring⟩ := h
  have go : ∀ (i : Nat) (t : TypeId) (cs : List Value), Blk w i t cs → (∀ k, row = some k → k ≠ i) → Blk w' i t cs := fun i t cs hb hn => (hg.block i hb.lt (fun e => hn i e.symm rfl)).trans hb
  exact ⟨fr, buf, go _ _ _ me fun k hk => (hr k hk).1, go _ _ _ bufb fun k hk => (hr k hk).2.1, go _ _ _ box fun k hk => (hr k hk).2.2, ring⟩
theorem SrvIs.alloc {w : World} {b g bs : Nat} {s : Srv} (h : SrvIs w b g bs s) (o : Obj) : SrvIs (w.alloc o) b g bs s := by
  obtain ⟨fr, buf, me, bufb, box, ring⟩ := h
  exact ⟨fr, buf, me.alloc o, bufb.alloc o, box.alloc o, ring⟩
theorem SrvIs.apart {w : World} {b g bs : Nat} {s : Srv} (h : SrvIs w b g bs s) {base : Nat} {size n : Nat} {v : Value} {xs : List Value} (ho : w.ownsRow base 2 size v n xs) :
    ∀ k, v.ownBlock = some k → k ≠ b ∧ k ≠ g ∧ k ≠ bs := by
  obtain ⟨fr, buf, me, bufb, box, ring⟩ := h
  intro k hk
  refine ⟨?_, ?_, ?_⟩ <;> rintro rfl
  · exact own_ne_blk ho me (by decide) hk
  · exact own_ne_blk ho bufb (by decide) hk
  · exact own_ne_blk ho box (by decide) hk
theorem ownsRow_only {S : List Nat} {w w' : World} {base : Nat} {e : TypeId} {size n : Nat} {v : Value} {xs : List Value} (h : w.ownsRow base e size v n xs) (ho : Only S w w') (hn : ∀ k, v.ownBlock = some k → k ∉ S) : w'.ownsRow base e size v n xs := by
  obtain ⟨h1, h2⟩ := h
  refine ⟨h1, ?_⟩
  rcases h2 with h2 | ⟨g, cap, cur, rfl, hg, hh, hr⟩
  · exact .inl h2
  · refine .inr ⟨g, cap, cur, rfl, hg, ?_, hr⟩
    have hlt : g < w.heap.size := by
      rcases Nat.lt_or_ge g w.heap.size with hl | hl
      · exact hl
      · rw [Array.getElem?_eq_none hl] at hh; cases hh
    exact (ho.block g hlt (hn g rfl)).trans hh

theorem Blk.grown {w w' : World} {b : Nat} {t : TypeId} {cs : List Value} {row : Option Nat} (h : Blk w b t cs) (hg : w.grownBy w' row) (hn : row ≠ some b) : Blk w' b t cs :=
  (hg.block b h.lt fun e => hn e.symm).trans h
theorem Only.grown {w wr w' : World} {row : Option Nat} (h : Only [] w wr) (hg : wr.grownBy w' row) (hr : ∀ k, row = some k → w.heap.size ≤ k) : Only [] w w' :=
  ⟨hg.os.trans h.os, hg.tape.trans h.tape, hg.output.trans h.output, Nat.le_trans h.size hg.size, fun i hi hn =>
    (hg.block i (Nat.lt_of_lt_of_le hi h.size) fun e => by have := hr i e.symm; omega).trans (h.block i hi hn)⟩

theorem own_reads {w : World} {base : Nat} {e : TypeId} {kd : IntKind} {v : Value} {xs : List Int} (h : w.ownsRow base e 1 v xs.length (xs.map (Value.int kd))) :
    ∃ A c, v = .slice A xs.length c ∧ ∀ k x, xs[k]? = some x → ∃ g, A = some ⟨g, 0, none⟩ ∧ w.cell? ⟨g, k, none⟩ = some (.int kd x) := by
  rcases h.2 with ⟨rfl, hn⟩ | ⟨g, cap, cur, rfl, _, hh, _, _, hsz, htk⟩
  · refine ⟨none, 0, by rw [hn], fun k x hx => ?_⟩
    have := (List.getElem?_eq_some_iff.1 hx).1
    omega
  · refine ⟨_, cap, rfl, fun k x hx => ⟨g, rfl, ?_⟩⟩
    have hlt := (List.getElem?_eq_some_iff.1 hx).1
    have h1 : (xs.map (Value.int kd))[k]? = some (.int kd x) := by simp [hx]
    rw [← htk, List.getElem?_take, if_pos (by omega)] at h1
    simp only [World.cell?, hh]
    simpa using h1

theorem SrvIs.lt {w : World} {b g bs : Nat} {s : Srv} (h : SrvIs w b g bs s) : b < w.heap.size ∧ g < w.heap.size ∧ bs < w.heap.size := by
  obtain ⟨fr, buf, me, bufb, box, ring⟩ := h
  exact ⟨me.lt, bufb.lt, box.lt⟩
theorem add_zero_off (g j : Nat) : (⟨g, 0, none⟩ : Addr).add j = ⟨g, j, none⟩ := by
  unfold Addr.add
  split
  · rename_i h; subst h; rfl
  · simp
theorem cells_new (w : World) (cs : List Value) (t : TypeId) {g : Nat} (hg : g = w.heap.size) (j : Nat) (u : Value) (h : cs[j]? = some u) :
    (w.alloc (.cells cs.toArray t)).cell? ((⟨g, 0, none⟩ : Addr).add j) = some u := by
  rw [add_zero_off]
  exact (Blk.new' w t cs hg).cell h

end Go.Proofs.Ytdjkgbkckmjfiaa
