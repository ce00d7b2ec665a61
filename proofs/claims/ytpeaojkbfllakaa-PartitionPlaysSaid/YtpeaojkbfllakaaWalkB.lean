/- advance: the meter goes on to a time. -/
import Derived.Test.YtpeaojkbfllakaaWalkA
namespace Go.Proofs.Ytpeaojkbfllakaa
open Go.RowKit

theorem mcell_slot (m : Mtr) (pv : Value) (ch : Int) {s r : Nat} (hs : s < 1000) (hr : r < 16) : mcell m pv ch (4 + s * 16 + r) = I64 (m.slotv s (r % 8) (decide (8 ≤ r))) := by
  unfold mcell
  rw [if_neg (by omega), if_neg (by omega), if_neg (by omega), if_neg (by omega), if_pos (by omega)]
  rw [show (4 + s * 16 + r - 4) / 16 = s from by omega, show (4 + s * 16 + r - 4) % 8 = r % 8 from by omega, show (4 + s * 16 + r - 4) % 16 = r from by omega]
theorem mcell_sum (m : Mtr) (pv : Value) (ch : Int) {r : Nat} (hr : r < 16) : mcell m pv ch (16004 + r) = I64 (m.sumv (r % 8) (decide (8 ≤ r))) := by
  unfold mcell
  rw [if_neg (by omega), if_neg (by omega), if_neg (by omega), if_neg (by omega), if_neg (by omega), if_pos (by omega), show 16004 + r - 16004 = r from by omega]

/-- Two meters' cells. -/
theorem mcell_ext {m m' : Mtr} {pv : Value} {ch ch' : Int} {g : Nat → Value} (hc : m'.cfg = m.cfg) (h0 : ∀ j, j < 4 → g j = mcell m pv ch j)
    (h1 : ∀ s r, s < 1000 → r < 16 → g (4 + s * 16 + r) = I64 (m'.slotv s (r % 8) (decide (8 ≤ r)))) (h2 : ∀ r, r < 16 → g (16004 + r) = I64 (m'.sumv (r % 8) (decide (8 ≤ r))))
    (h3 : g 16020 = I64 m'.now) (h4 : g 16021 = I64 ch') : ∀ j, j < 16022 → g j = mcell m' pv ch' j := by
  intro j hj
  by_cases a : j < 4
  · rw [h0 j a]
    unfold mcell
    rw [hc]
    match j, a with
    | 0, _ => rfl
    | 1, _ => rfl
    | 2, _ => rfl
    | 3, _ => rfl
  by_cases b : j < 16004
  · have := h1 ((j - 4) / 16) ((j - 4) % 16) (by omega) (by omega)
    rw [show 4 + (j - 4) / 16 * 16 + (j - 4) % 16 = j from by omega] at this
    rw [this]
    have e := mcell_slot m' pv ch' (s := (j - 4) / 16) (r := (j - 4) % 16) (by omega) (by omega)
    rw [show 4 + (j - 4) / 16 * 16 + (j - 4) % 16 = j from by omega] at e
    rw [e]
  by_cases c : j < 16020
  · have := h2 (j - 16004) (by omega)
    rw [show 16004 + (j - 16004) = j from by omega] at this
    rw [this]
    have e := mcell_sum m' pv ch' (r := j - 16004) (by omega)
    rw [show 16004 + (j - 16004) = j from by omega] at e
    rw [e]
  by_cases d : j = 16020
  · subst d; rw [h3]; rfl
  · obtain rfl : j = 16021 := by omega
    rw [h4]; rfl

def Parts (w : World) (pb : Nat) (l : List (Int × Int)) : Prop := ∃ cs, Blk w pb 64 cs ∧ ∀ i x, l[i]? = some x → cs[i * 2]? = some (I64 x.1) ∧ cs[i * 2 + 1]? = some (I64 x.2)

structure MtrAt (w : World) (b pb cap : Nat) (m : Mtr) (ch : Int) : Prop where
  me : FBlk w b 62 16022 (mcell m (.slice (some ⟨pb, 0, none⟩) m.cfg.parts.length cap) ch)
  parts : Parts w pb m.cfg.parts

def MtrIs (w : World) (b pb : Nat) (m : Mtr) : Prop := ∃ cap, MtrAt w b pb cap m (m.tickv m.now)

theorem Parts.only {S : List Nat} {w w' : World} {pb : Nat} {l : List (Int × Int)} (h : Parts w pb l) (ho : Only S w w') (hn : pb ∉ S) : Parts w' pb l := by
  obtain ⟨cs, hb, hc⟩ := h
  exact ⟨cs, ho.blk hb hn, hc⟩
theorem MtrAt.only {S : List Nat} {w w' : World} {b pb cap : Nat} {m : Mtr} {ch : Int} (h : MtrAt w b pb cap m ch) (ho : Only S w w') (h1 : b ∉ S) (h2 : pb ∉ S) : MtrAt w' b pb cap m ch := ⟨h.me.only ho h1, h.parts.only ho h2⟩
theorem MtrIs.only {S : List Nat} {w w' : World} {b pb : Nat} {m : Mtr} (h : MtrIs w b pb m) (ho : Only S w w') (h1 : b ∉ S) (h2 : pb ∉ S) : MtrIs w' b pb m := by
  obtain ⟨cap, h⟩ := h
  exact ⟨cap, h.only ho h1 h2⟩
theorem MtrAt.ne {w : World} {b pb cap : Nat} {m : Mtr} {ch : Int} (h : MtrAt w b pb cap m ch) : b ≠ pb := by
  obtain ⟨cs, hb, _⟩ := h.parts
  exact h.me.ne hb (by decide)

/-! The jump. -/
def jumpf (m : Mtr) (pv : Value) (k : Nat) (j : Nat) : Value := if 4 ≤ j ∧ j < 4 + k * 16 then I64 0 else if j = 16021 then I64 0 else mcell m pv 0 j
abbrev zs16 : List Value := [I64 0, I64 0, I64 0, I64 0, I64 0, I64 0, I64 0, I64 0, I64 0, I64 0, I64 0, I64 0, I64 0, I64 0, I64 0, I64 0]
theorem zs16_at {i : Nat} (h : i < 16) : zs16.getD i undef = I64 0 := by
  have e : zs16 = List.replicate 16 (I64 0) := rfl
  rw [e, List.getD_eq_getElem?_getD, List.getElem?_replicate, if_pos h]
  rfl
theorem jumpf_step (m : Mtr) (pv : Value) (k j : Nat) : (if 4 + k * 16 ≤ j ∧ j < 4 + k * 16 + zs16.length then zs16.getD (j - (4 + k * 16)) undef else jumpf m pv k j) = jumpf m pv (k + 1) j := by
  have hl : zs16.length = 16 := rfl
  rw [hl]
  unfold jumpf
  by_cases a : 4 + k * 16 ≤ j ∧ j < 4 + k * 16 + 16
  · rw [if_pos a, if_pos (by omega), zs16_at (by omega)]
  · rw [if_neg a]
    by_cases b : 4 ≤ j ∧ j < 4 + k * 16
    · rw [if_pos b, if_pos (by omega)]
    · rw [if_neg b, if_neg (show ¬ (4 ≤ j ∧ j < 4 + (k + 1) * 16) by omega)]
theorem jump_end {m : Mtr} (h : m.Inv) (pv : Value) {now : Int} (hn : m.cfg.W ≤ now - m.now) : ∀ j, j < 16022 →
    (if j = 16020 then I64 now else if 16004 ≤ j ∧ j < 16004 + zs16.length then zs16.getD (j - 16004) undef else jumpf m pv m.cfg.W j) = mcell (m.at_ now) pv ((m.at_ now).tickv now) j := by
  have hW := h.cfg.2.1
  have hW0 := h.cfg.1
  have hl : zs16.length = 16 := rfl
  rw [hl]
  refine mcell_ext (m := m) (ch := 0) rfl (fun j hj => ?_) (fun s r hs hr => ?_) (fun r hr => ?_) rfl ?_
  · rw [if_neg (by omega), if_neg (by omega)]; unfold jumpf; rw [if_neg (by omega), if_neg (by omega)]
  · rw [h.jump_slot hn, if_neg (by omega), if_neg (by omega)]
    unfold jumpf
    by_cases a : s < m.cfg.W
    · rw [if_pos (by omega)]
    · rw [if_neg (by omega), if_neg (by omega), mcell_slot _ _ _ hs hr, h.slot_high _ _ _ (by omega)]
  · rw [h.jump_sum hn, if_neg (by omega), if_pos (by omega), show 16004 + r - 16004 = r from by omega, zs16_at hr]
  · rw [if_neg (by omega), if_neg (by omega)]
    unfold jumpf
    rw [if_neg (by omega), if_pos rfl]
    rw [show (m.at_ now).tickv now = m.tickv now from rfl, h.tick_later (by omega)]

/-! One tick. -/
def suf (m : Mtr) (r : Nat) : Int := m.sumv (r % 8) (decide (8 ≤ r))
def svf (m : Mtr) (s r : Nat) : Int := m.slotv s (r % 8) (decide (8 ≤ r))
def su1f (m : Mtr) (s n r : Nat) : Int := if r % 8 < n then suf m r + 1 * svf m s r else suf m r
theorem tick_mid (m : Mtr) (pv : Value) (s n : Nat) (r : Nat) (hr : r < 16) : addf (mcell m pv 0) (suf m) (svf m s) 1 n (16004 + r) = I64 (su1f m s n r) := by
  unfold addf su1f
  rw [show 16004 + r - 16004 = r from by omega]
  by_cases a : r % 8 < n
  · rw [if_pos (by omega), if_pos a]
  · rw [if_neg (by omega), if_neg a, mcell_sum _ _ _ hr]; rfl
theorem tick_end {m : Mtr} (h : m.Inv) (pv : Value) (hW2 : 2 ≤ m.cfg.W) (s s' : Nat) (hs : m.now % (m.cfg.W : Int) = s) (hs' : (m.now + 1) % (m.cfg.W : Int) = s') : ∀ j, j < 16022 →
    (if j = 16020 then I64 (m.now + 1) else if 4 + s' * 16 ≤ j ∧ j < 4 + s' * 16 + zs16.length then zs16.getD (j - (4 + s' * 16)) undef
      else addf (addf (mcell m pv 0) (suf m) (svf m s) 1 m.cfg.parts.length) (su1f m s m.cfg.parts.length) (svf m s') (-1) m.cfg.parts.length j) = mcell (m.at_ (m.now + 1)) pv 0 j := by
  have hW := h.cfg.2.1
  have hl : zs16.length = 16 := rfl
  have hs'W : s' < m.cfg.W := by have := Int.emod_lt_of_pos (m.now + 1) h.W0; omega
  rw [hl]
  refine mcell_ext (m := m) (ch := 0) rfl (fun j hj => ?_) (fun q r hq hr => ?_) (fun r hr => ?_) rfl ?_
  · rw [if_neg (by omega), if_neg (by omega)]; unfold addf; rw [if_neg (by omega), if_neg (by omega)]
  · rw [h.slot_next _ _ q s' hs', if_neg (by omega)]
    by_cases a : q = s'
    · subst a
      rw [if_pos (by omega), if_pos rfl, zs16_at (by omega)]
    · rw [if_neg (by omega), if_neg a]
      unfold addf
      rw [if_neg (by omega), if_neg (by omega), mcell_slot _ _ _ hq hr]
  · rw [h.sum_next hW2 _ _ s s' hs hs', if_neg (by omega), if_neg (by omega)]
    unfold addf su1f
    rw [show 16004 + r - 16004 = r from by omega]
    by_cases a : r % 8 < m.cfg.parts.length
    · rw [if_pos (by omega), if_pos a]
      congr 1
      unfold suf svf; omega
    · rw [if_neg (by omega), if_neg (by omega), mcell_sum _ _ _ hr, h.slot_part _ _ _ (by omega), h.slot_part _ _ _ (by omega)]
      simp [suf]
  · rw [if_neg (by omega), if_neg (by omega)]
    unfold addf
    rw [if_neg (by omega), if_neg (by omega)]; rfl

end Go.Proofs.Ytpeaojkbfllakaa
