/- Flush. -/
import Derived.Test.YtabdahojgmbgdaaWalkF
namespace Go.Proofs.Ytabdahojgmbgdaa
open Go.RowKit

def Dk.allK (D : Dk) : Nat → Dk
  | 0 => D
  | k + 1 => (D.allK k).fated 1 (D.cache.getD k (0, []))
theorem Dk.allK_keep (D : Dk) (k : Nat) : (D.allK k).cache = D.cache ∧ (D.allK k).bs.length = D.bs.length ∧ (D.allK k).off = D.off ∧ (D.allK k).left = D.left ∧ (D.allK k).script = D.script ∧ (D.allK k).wr = D.wr := by
  induction k with
  | zero => exact ⟨rfl, rfl, rfl, rfl, rfl, rfl⟩
  | succ k ih => obtain ⟨h1, h2, h3, h4, h5, h6⟩ := ih; exact ⟨h1, by simp [Dk.allK, Dk.fated, h2], h3, h4, h5, h6⟩
def Dk.flush (D : Dk) : Dk × Int := if D.off then (D, 15) else ({ D.allK D.cache.length with cache := [] }, 0)
def DP.noC (p : DP) : DP := { p with vc := nullS }
theorem code_at0 {D : Dk} (h : DkOk D) : D.code 0 = if D.off then 15 else 0 := by
  have := h.pos
  unfold Dk.code
  split
  · rfl
  · rw [if_neg (by omega)]

def AllI (base : Nat) (p : DP) (D : Dk) (w0 : World) (k : Nat) (wr : World) : Prop := DkAt base wr p (D.allK k) ∧ Only p.vb.ownBlock.toList w0 wr
/-- What Flush answers. -/
def FlushS (base : Nat) (p : DP) (D : Dk) (w : World) (e : Ending) (w' : World) : Prop :=
  e = .returned (I64 D.flush.2) ∧ DkAt base w' (if D.off then p else p.noC) D.flush.1 ∧ Only (p.d :: p.vb.ownBlock.toList) w w'
theorem DkOk.noC {E : Dk} (h : DkOk E) : DkOk { E with cache := [] } := ⟨h.hb, (fun _ hx => by cases hx), h.pos, h.most, Nat.zero_le _, h.sm, h.s8, h.lf⟩

set_option maxRecDepth 20000 in
set_option maxHeartbeats 1000000 in
theorem flush_ok (base : Nat) (w : World) (p : DP) (D : Dk) (h : DkAt base w p D) :
    Calls Try.prog 17 #[.pointer (some ⟨p.d, 0, none⟩)] w (FlushS base p D w) := by
  have HU := hide (usable_ok base w p D 0 h)
  rw [code_at0 h.ok] at HU
  rcases Bool.eq_false_or_eq_true D.off with hf | hf
  · rw [hf, if_pos rfl] at HU
    have HF := hide hf
    have H := hide h
    clear h hf
    go_enter Try.func17, Try.ntmps17
    go_wp2_with (go_at_call 46; refine HU.out.mono ?_; rintro e w1 ⟨rfl, rfl⟩)
    go_ret
    have hfl : D.flush = (D, 15) := by unfold Dk.flush; rw [if_pos HF.out]
    refine ⟨by rw [hfl]; rfl, ?_, Only.refl _ _⟩
    rw [if_pos HF.out, hfl]
    exact H.out
  · rw [hf, if_neg (by decide)] at HU
    obtain ⟨Ac, cc, hvc⟩ := off_shape h.cr
    obtain ⟨n, hn⟩ : ∃ n, n = D.cache.length := ⟨_, rfl⟩
    have hme := h.me
    unfold Dk.cells at hme
    rw [hvc, ← hn] at hme
    have c1 := hme.cell (i := 1) rfl
    have hlt := hme.lt
    have hn4 : n ≤ 4096 := by rw [hn]; exact h.ok.cm
    have HF := hide hf
    have HD := hide h
    have HVC := hide hvc
    have HNN := hide hn
    have HC0 : Hid (AllI base p D w 0 w) := hide ⟨h, Only.refl _ _⟩
    clear hme h hf hvc hn
    go_enter Try.func17, Try.ntmps17
    go_wp2_with (go_at_call 46; refine HU.out.mono ?_; rintro e w1 ⟨rfl, rfl⟩)
    go_loopw [16] (fun i wr => ∃ k : Nat, k ≤ n ∧ i = I64 (k : Nat) ∧ Hid (AllI base p D w1 k wr)) (fun i _ => n - (intOf i).toNat)
    case atStart => exact ⟨0, Nat.zero_le _, rfl, HC0⟩
    case round =>
      obtain ⟨k, hk, rfl, HI⟩ := hrel
      rcases Nat.lt_or_ge k n with hlt2 | hge
      · obtain ⟨hd, ho⟩ := HI.out
        obtain ⟨kc, kb, -, -, -, -⟩ := D.allK_keep k
        obtain ⟨E, hE⟩ : ∃ E, E = D.allK k := ⟨_, rfl⟩
        rw [← hE] at hd kc kb
        obtain ⟨x, hx⟩ : ∃ x, E.cache[k]? = some x := ⟨_, List.getElem?_eq_getElem (by rw [kc, ← HNN.out]; exact hlt2)⟩
        have hxo := hd.ok.hc x (List.mem_of_getElem? hx)
        obtain ⟨gc, oc, cc2, -, hvc, -, -, -⟩ := off_blk hd.cr (by rw [kc, ← HNN.out]; omega)
        obtain rfl : Ac = some ⟨gc, oc, none⟩ := by
          have := HVC.out
          rw [hvc] at this
          injection this with h1 _ _
          exact h1.symm
        obtain ⟨cx, hcx⟩ : ∃ cx, cx = wcell x := ⟨_, rfl⟩
        have HCX : Hid (∀ j v, cx[j]? = some v → wr.cell? ⟨gc, oc + k * 65 + j, none⟩ = some v) := hide (fun j v hj => by
          rw [Nat.add_assoc]
          exact off_cells hd.cr hvc _ _ (flat_at E.cache (fun y hy => wcell_len (hd.ok.hc y hy).2) k x j v hx (by rw [← hcx]; exact hj)))
        have HLX : Hid (cx.length = 65) := hide (by rw [hcx]; exact wcell_len hxo.2)
        have HLX2 : Hid (0 + cx.length ≤ zwA.toList.length) := hide (by rw [HLX.out, zwA_len]; decide)
        have HX1 : Hid (∀ v ∈ cx, v.oneCell' = true) := hide (by rw [hcx]; exact wcell_one x)
        have HD2 := hide hd
        have HXO := hide hxo
        have HXX := hide (And.intro hE hx)
        have HCC := hide hcx
        have HKC := hide (And.intro kc kb)
        have HO2 := hide ho
        have HKK : Hid (D.allK (k + 1) = E.fated 1 x) := hide (by
          show (D.allK k).fated 1 (D.cache.getD k (0, [])) = _
          have e2 : D.cache.getD k (0, []) = x := by rw [List.getD_eq_getElem?_getD, ← kc, hx]; rfl
          rw [e2, hE])
        have hk0 : ((k : Nat) : Int) < (n : Int) := by omega
        clear hd ho kc kb hE hx hxo hvc hcx c1 HI
        go_wp2_with (first
          | (refine wpList_load_cells rfl wrT (.tmp 18) rfl gc (oc + k * 65) rfl cx (d := _) HCX.out Try.underlying114 rfl (by rw [HLX.out]; kernel_rfl) ?_)
          | (refine wpList_alloc_agg rfl wrT rfl zwA zwA_info ?_)
          | (refine wpList_store_cells rfl wrT (.tmp 5) (.tmp 19) rfl wr.heap.size 0 rfl cx rfl wrT zwA.toList (Blk.newA rfl) HLX2.out (by rw [HLX.out]; kernel_rfl) HX1.out ?_
             intro w3 hw3
             have hox3 : Only [] wr w3 := ((Only.refl [] wr).alloc _).trans' hw3.2.1 (by intro i hi hlt; simp at hi; omega)
             have hb3 : Blk w3 wr.heap.size wrT cx := hw3.1.to (by rw [List.drop_of_length_le (by rw [HLX.out, zwA_len]; decide)]; simp)
             have HB3 : Hid (∀ j v, cx[j]? = some v → w3.cell? ⟨wr.heap.size, 0 + j, none⟩ = some v) := hide (fun j v hj => by rw [Nat.zero_add]; exact hb3.cell hj)
             have HD3 := hide (HD2.out.keep hox3)
             have HO3 := hide (HO2.out.trans (hox3.mono (by simp)))
             have HWH : Hid (Calls Try.prog 47 #[.pointer (some ⟨p.d, 0, none⟩), .agg cx.toArray] w3 (FateS base p E x 1 w3)) := hide (by rw [HCC.out]; exact whole_ok base w3 p E x HD3.out HXO.out.1 HXO.out.2)
             clear hw3 hox3 hb3)
          | (refine wpList_load_cells rfl wrT (.tmp 5) rfl wr.heap.size 0 rfl cx (d := _) HB3.out Try.underlying114 rfl (by rw [HLX.out]; kernel_rfl) ?_)
          | (go_at_call 47
             refine HWH.out.mono ?_
             rintro e w4 ⟨rfl, hD4, hO4⟩
             have H4 := hide (And.intro hD4 hO4)
             clear hD4 hO4))
        go_roundw
        case rel => exact ⟨k + 1, by omega, by go_num, hide ⟨by rw [HKK.out]; exact H4.out.1, HO3.out.trans H4.out.2⟩⟩
        case measure => simp [intOf]; omega
      · obtain rfl : k = n := by omega
        obtain ⟨hd, ho⟩ := HI.out
        obtain ⟨kc, kb, ko, -, -, -⟩ := D.allK_keep k
        obtain ⟨E, hE⟩ : ∃ E, E = D.allK k := ⟨_, rfl⟩
        rw [← hE] at hd kc kb ko
        have hme := hd.me
        unfold Dk.cells at hme
        rw [HVC.out, ← HNN.out] at hme
        have d1 := hme.cell (i := 1) rfl
        have f0 := fun i => hme.frozen i
        have hlt3 := hme.lt
        have HD2 := hide hd
        have HKC := hide (And.intro kc (And.intro kb ko))
        have HEE := hide hE
        have HO9 := hide ho
        clear hd hme kc kb ko hE ho HI c1
        go_wp2
        go_ret
        have ho5 : Only [p.d] wr (wr.setCell ⟨p.d, 1, none⟩ (.slice none 0 0)) := (Only.refl _ wr).set (p := ⟨p.d, 1, none⟩) (.inl (by simp)) _
        have hfl : D.flush = ({ E with cache := [] }, 0) := by
          unfold Dk.flush
          rw [if_neg (by rw [HF.out]; decide), ← HNN.out, ← HEE.out]
        refine ⟨by rw [hfl]; rfl, ?_, ?_⟩
        · rw [if_neg (by rw [HF.out]; decide), hfl]
          have h := HD2.out
          exact ⟨h.me.set 1 _, off_set h.br (off_ne_blk h.br h.me (by decide)) _, off_nil _ _ _ _, off_set h.sr (off_ne_blk h.sr h.me (by decide)) _, h.ok.noC⟩
        · exact (HO9.out.mono (fun j hj _ => List.mem_cons_of_mem _ hj)).trans (ho5.mono (fun j hj _ => by simp at hj; subst hj; exact List.mem_cons_self))

end Go.Proofs.Ytabdahojgmbgdaa
