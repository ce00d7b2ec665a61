/- Cut. -/
import Derived.Test.YtabdahojgmbgdaaWalkB
import Derived.Test.YtabdahojgmbgdaaBig
import Derived.Deep.DeepCutAuto
import Derived.Deep.CutBlock
namespace Go.Proofs.Ytabdahojgmbgdaa
open Go.RowKit

/-- The script that counts. -/
def scr (s : List Nat) : List Nat := if s = [] then [0] else s
theorem scr_pos (s : List Nat) : 0 < (scr s).length := by
  unfold scr
  split
  · simp
  · exact List.length_pos_iff.2 ‹_›
def Dk.cutK (D : Dk) (s : List Nat) : Nat → Dk
  | 0 => D
  | k + 1 => (D.cutK s k).fated (s.getD (k % s.length) 0) (D.cache.getD k (0, []))
theorem Dk.cutK_keep (D : Dk) (s : List Nat) (k : Nat) : (D.cutK s k).cache = D.cache ∧ (D.cutK s k).bs.length = D.bs.length ∧ (D.cutK s k).off = D.off ∧ (D.cutK s k).left = D.left ∧ (D.cutK s k).script = D.script ∧ (D.cutK s k).wr = D.wr := by
  induction k with
  | zero => exact ⟨rfl, rfl, rfl, rfl, rfl, rfl⟩
  | succ k ih => obtain ⟨h1, h2, h3, h4, h5, h6⟩ := ih; exact ⟨h1, by simp [Dk.cutK, Dk.fated, h2], h3, h4, h5, h6⟩
def Dk.dark (D : Dk) : Dk := { D with cache := [], off := true, left := 0, script := [] }
def Dk.cut (D : Dk) (s : List Nat) : Dk := if D.off then D else (D.cutK (scr s) D.cache.length).dark
def DP.dark (p : DP) : DP := { p with vc := nullS, vs := nullS }

theorem fated_mod {D : Dk} {x : WB} {q n : Nat} (h : q % 4 = n) : D.fated q x = D.fated n x := by
  unfold Dk.fated fate
  rw [show n % 4 = q % 4 by omega]

abbrev fatT : TypeId := 117
abbrev fatL : List Value := [.func (.func 48) #[] #[], .func (.func 47) #[] #[], .func (.func 49) #[] #[], .func (.func 50) #[] #[]]
theorem build_fates : ∀ w : World, (Instr.build fatT #[(0, .func (.func 48) #[] #[]), (1, .func (.func 47) #[] #[]), (2, .func (.func 49) #[] #[]), (3, .func (.func 50) #[] #[])]).run Try.prog w = .ok (.agg fatL.toArray) w := fun _ => by kernel_rfl

abbrev planT : TypeId := 109
theorem build_plan : ∀ w : World, (Instr.build planT #[]).run Try.prog w = .ok (.agg #[I64 0, .slice none 0 0]) w := fun _ => by kernel_rfl
def zwr : Value := .agg (wcell (0, zb)).toArray
theorem zwr_info : (Try.prog.info? wrT).bind (·.zero) = some zwr := by kernel_rfl

/-- What the first part of Cut leaves: the script that counts. -/
def ScrAt (base : Nat) (p : DP) (D : Dk) (s : List Nat) (w : World) (v : Value) (wx : World) : Prop :=
  offRow wx 0 u8T 1 v (scr s).length (bcells (scr s)) ∧ DkAt base wx p D ∧ Only [] w wx

/-- Behind k writes. -/
def CutI (base : Nat) (p : DP) (D : Dk) (S : List Nat) (b4 : Nat) (w0 : World) (k : Nat) (wr : World) : Prop :=
  DkAt base wr p (D.cutK S k) ∧ Blk wr b4 fatT fatL ∧ Only p.vb.ownBlock.toList w0 wr

/-- What Cut answers. -/
def CutS (base : Nat) (p : DP) (D : Dk) (s : List Nat) (w : World) (e : Ending) (w' : World) : Prop :=
  e = .returned (.tuple #[]) ∧ DkAt base w' (if D.off then p else p.dark) (D.cut s) ∧ Only (p.d :: p.vb.ownBlock.toList) w w'
theorem DkOk.dark {E : Dk} (h : DkOk E) : DkOk E.dark :=
  ⟨h.hb, (fun _ hx => by cases hx), h.pos, h.most, Nat.zero_le _, Nat.zero_le _, fun _ hx => (by cases hx), ⟨Int.le_refl _, show (0 : Int) ≤ 1073741824 by decide⟩⟩

set_option maxRecDepth 20000 in
set_option maxHeartbeats 1000000 in
theorem cut_ok (base : Nat) (w : World) (p : DP) (D : Dk) (s : List Nat) (v : Value) (h : DkAt base w p D) (hs : offRow w 0 u8T 1 v s.length (bcells s)) (hs8 : ∀ x ∈ s, x < 256) (hsl : s.length ≤ 1000000000) :
    Calls Try.prog 18 #[.pointer (some ⟨p.d, 0, none⟩), v] w (CutS base p D s w) := by
  have hme := h.me
  unfold Dk.cells at hme
  have hl := hme.lt
  have c2 := hme.cell (i := 2) rfl
  rcases Bool.eq_false_or_eq_true D.off with hf | hf
  · rw [hf] at c2
    have HF := hide hf
    have H := hide h
    clear hme h hs hs8 hf
    go_enter Try.func18, Try.ntmps18
    go_wp2
    refine bodyPost_ret (results_none rfl _ _ _) rfl ?_
    refine ⟨rfl, ?_, Only.refl _ _⟩
    unfold Dk.cut
    rw [if_pos HF.out, if_pos HF.out]
    exact H.out
  · rw [hf] at c2
    have HF := hide hf
    have H := hide h
    have HS := hide hs
    have H8 := hide hs8
    obtain ⟨A, c, rfl⟩ := off_shape hs
    obtain ⟨m0, hm0⟩ : ∃ m0, m0 = s.length := ⟨_, rfl⟩
    rw [← hm0] at HS hsl ⊢
    have HM0 := hide hm0
    clear hme h hs hs8 hf hm0
    go_enter Try.func18, Try.ntmps18
    go_upto_if 17 with (fail)

    go_cut [1] (fun u wx => ScrAt base p D s w u wx)
    case first =>
      by_cases h0 : m0 = 0
      · have HN : Hid (scr s = [0]) := hide (by
          have := HM0.out
          rw [h0] at this
          unfold scr
          rw [if_pos (List.length_eq_zero_iff.1 this.symm)])
        subst h0
        go_wp2
        go_meet
        have ho : Only [] w (w.alloc (.cells #[.int .u8 0] u8T)) := (Only.refl _ _).alloc _
        refine ⟨?_, H.out.keep ho, ho⟩
        rw [HN.out]
        exact ⟨by simp [bcells], .inr ⟨w.heap.size, 0, 1, [.int .u8 0], rfl, Nat.zero_le _, Blk.newA rfl, by simp, by simp [maxLen], by simp, by simp [bcells]⟩⟩
      · have HN : Hid (scr s = s) := hide (by unfold scr; rw [if_neg]; intro hc; rw [hc] at HM0; exact h0 HM0.out)
        go_wp2
        go_meet
        refine ⟨?_, H.out, Only.refl _ _⟩
        rw [HN.out]
        rw [← HM0.out]
        exact HS.out
    obtain ⟨hr, hd, ho⟩ := hcut
    obtain ⟨S, hS⟩ : ∃ S, S = scr s := ⟨_, rfl⟩
    rw [← hS] at hr
    have hSp : 0 < S.length := by rw [hS]; exact scr_pos s
    have HS8 : Hid (∀ x ∈ S, x < 256) := hide (by
      rw [hS]; unfold scr; split
      · simp
      · exact H8.out)
    have hSl : S.length ≤ 1000000000 := by
      rw [hS]; unfold scr; split
      · simp
      · rw [← HM0.out]; exact hsl
    obtain ⟨gs, os, cs, scs, rfl, -, -, -⟩ := off_blk hr hSp
    obtain ⟨m, hm⟩ : ∃ m, m = S.length := ⟨_, rfl⟩
    rw [← hm] at hr hSp hSl ⊢
    obtain ⟨Ac, cc, hvc⟩ := off_shape hd.cr
    obtain ⟨n, hn⟩ : ∃ n, n = D.cache.length := ⟨_, rfl⟩
    have hme := hd.me
    unfold Dk.cells at hme
    rw [hvc, ← hn] at hme
    have hn4 : n ≤ 4096 := by rw [hn]; exact hd.ok.cm
    have HR := hide hr
    have HD := hide hd
    have HO := hide ho
    have HME := hide hme
    have HVC := hide hvc
    have HNN := hide hn
    have HMM := hide hm
    have HSS := hide hS
    have hbf := build_fates
    clear hr hd ho hme hvc hn hm hS H H8 HS c2 hl HM0
    go_upto_region 4 with (refine wpList_store_cells rfl fatT (.tmp 4) (.tmp 19) rfl wc.heap.size 0 rfl fatL rfl fatT [.nilFunc, .nilFunc, .nilFunc, .nilFunc] (Blk.newA rfl) (by exact Nat.le_refl _) (by kernel_rfl) (by simp [Value.oneCell']) ?_; intro w2 hw2)
    have hox : Only [] wc w2 := ((Only.refl [] wc).alloc _).trans' hw2.2.1 (by intro i hi hlt; simp at hi; omega)
    have hfb : Blk w2 wc.heap.size fatT fatL := hw2.1.to (by rfl)
    have c1 := (hox.blk HME.out (by simp)).cell (i := 1) rfl
    have hlt := (hox.blk HME.out (by simp)).lt
    have HC0 : Hid (CutI base p D S wc.heap.size w2 0 w2) := hide ⟨HD.out.keep hox, hfb, Only.refl _ _⟩
    have HR2 := hide (off_keep HR.out hox)
    have HO2 := hide (HO.out.trans hox)
    clear hw2 hox hfb HR HO HD HME hbf
    go_wp2
    go_loopw [25] (fun i wr => ∃ k : Nat, k ≤ n ∧ i = I64 (k : Nat) ∧ Hid (CutI base p D S wc.heap.size w2 k wr)) (fun i _ => n - (intOf i).toNat)
    case atStart => exact ⟨0, Nat.zero_le _, rfl, HC0⟩
    case round =>
      obtain ⟨k, hk, rfl, HI⟩ := hrel
      rcases Nat.lt_or_ge k n with hlt2 | hge
      · obtain ⟨hd, hf4, ho⟩ := HI.out
        obtain ⟨kc, kb, -, -, -, -⟩ := D.cutK_keep S k
        obtain ⟨E, hE⟩ : ∃ E, E = D.cutK S k := ⟨_, rfl⟩
        rw [← hE] at hd kc kb
        obtain ⟨x, hx⟩ : ∃ x, E.cache[k]? = some x := ⟨_, List.getElem?_eq_getElem (by rw [kc, ← HNN.out]; exact hlt2)⟩
        have hxo := hd.ok.hc x (List.mem_of_getElem? hx)
        obtain ⟨gc, oc, cc2, -, hvc, -, -, -⟩ := off_blk hd.cr (by rw [kc, ← HNN.out]; omega)
        obtain rfl : Ac = some ⟨gc, oc, none⟩ := by
          have := HVC.out
          rw [hvc] at this
          injection this with h1 _ _
          exact h1.symm
        obtain ⟨cx, hcx⟩ : ∃ cx, cx = wcell x := ⟨_, rfl⟩
        have HCX : Hid (∀ j v, cx[j]? = some v → wr.cell? ⟨gc, oc + k * 65 + j, none⟩ = some v) := hide (fun j v hj => by
          rw [Nat.add_assoc]
          exact off_cells hd.cr hvc _ _ (flat_at E.cache (fun y hy => wcell_len (hd.ok.hc y hy).2) k x j v hx (by rw [← hcx]; exact hj)))
        have HLX : Hid (cx.length = 65) := hide (by rw [hcx]; exact wcell_len hxo.2)
        have HLX2 : Hid (0 + cx.length ≤ zwr.cells.toList.length) := hide (by rw [HLX.out]; simp [zwr, Value.cells, wcell_len, zb_len])
        have HX1 : Hid (∀ v ∈ cx, v.oneCell' = true) := hide (by rw [hcx]; intro v hv; rcases List.mem_cons.1 hv with rfl | hv; rfl; exact bcells_one _ v hv)
        have HD := hide hd
        have HXO := hide hxo
        have HXX := hide (And.intro hE hx)
        have HCC := hide hcx
        have HKC := hide (And.intro kc kb)
        have HF4 := hide (And.intro hf4 ho)
        have hk0 : ((k : Nat) : Int) < (n : Int) := by omega
        clear hd hf4 ho kc kb hE hx hxo hvc hcx c1 HI
        go_upto_region 7 with (first
          | (refine wpList_load_cells rfl wrT (.tmp 28) rfl gc (oc + k * 65) rfl cx (d := _) HCX.out Try.underlying114 rfl (by rw [HLX.out]; kernel_rfl) ?_)
          | (refine wpList_alloc_cells rfl wrT rfl zwr zwr_info ?_)
          | (refine wpList_store_cells rfl wrT (.tmp 6) (.tmp 29) rfl wr.heap.size 0 rfl cx rfl wrT zwr.cells.toList (Blk.newA rfl) HLX2.out (by rw [HLX.out]; kernel_rfl) HX1.out ?_; intro w3 hw3))
        simp only [Act.put]
        have hox3 : Only [] wr w3 := ((Only.refl [] wr).alloc _).trans' hw3.2.1 (by intro i hi hlt; simp at hi; omega)
        have hb3 : Blk w3 wr.heap.size wrT cx := hw3.1.to (by rw [List.drop_of_length_le (by rw [HLX.out]; simp [zwr, Value.cells, wcell_len, zb_len])]; simp)
        have HB3 : Hid (∀ j v, cx[j]? = some v → w3.drew.cell? ⟨wr.heap.size, 0 + j, none⟩ = some v) := hide (fun j v hj => by rw [Nat.zero_add]; exact hb3.cell hj)
        have HR3 := off_keep (off_apart HR2.out HC0.out.1.br (by decide) HF4.out.2) hox3
        obtain ⟨r, hr⟩ : ∃ r, r = k % m := ⟨_, rfl⟩
        have hrm : r < m := by rw [hr]; exact Nat.mod_lt _ hSp
        obtain ⟨q, hq⟩ : ∃ q, S[r]? = some q := ⟨_, List.getElem?_eq_getElem (by rw [← HMM.out]; exact hrm)⟩
        have hq256 : q < 256 := HS8.out q (List.mem_of_getElem? hq)
        have hsc : w3.cell? ⟨gs, os + r, none⟩ = some (.int .u8 (q : Int)) := off_cells HR3 rfl r _ (bcells_at hq)
        have h5 : ((k : Nat) : Int) % ((m : Nat) : Int) = (r : Int) := by rw [hr]; exact (Int.natCast_emod k m).symm
        have HKK : Hid (D.cutK S (k + 1) = E.fated q x) := hide (by
          show (D.cutK S k).fated (S.getD (k % S.length) 0) (D.cache.getD k (0, [])) = _
          have e1 : S.getD (k % S.length) 0 = q := by rw [List.getD_eq_getElem?_getD, ← HMM.out, ← hr, hq]; rfl
          have e2 : D.cache.getD k (0, []) = x := by rw [List.getD_eq_getElem?_getD, ← HKC.out.1, HXX.out.2]; rfl
          rw [e1, e2, HXX.out.1])
        have HF3 : Hid (Blk w3 wc.heap.size fatT fatL ∧ Only p.vb.ownBlock.toList w2 w3) := hide ⟨hox3.blk HF4.out.1 (by simp), HF4.out.2.trans (hox3.mono (by simp))⟩
        have hf3 := HF3.out.1
        have HD3 := hide (HD.out.keep hox3.drew)
        have hlt3 := HD3.out.me.lt
        have hq4 : q % 4 = 0 ∨ q % 4 = 1 ∨ q % 4 = 2 ∨ q % 4 = 3 := by omega
        have hr0 : (0 : Int) ≤ (r : Int) := by omega
        have hr1 : (r : Int) < (m : Int) := by omega
        clear hw3 hox3 hb3 HR3 hr hq hrm
        rcases hq4 with hq4 | hq4 | hq4 | hq4
        · have e4 : (q : Int) % 4 = 0 := by omega
          have hfc := hf3.cell (i := 0) rfl
          have HK : Hid (Calls Try.prog 48 #[.pointer (some ⟨p.d, 0, none⟩), .agg cx.toArray] w3.drew (FateS base p E x 0 w3.drew)) := hide (by
            rw [HCC.out]; exact lose_ok base w3.drew p E x HD3.out HXO.out.1 HXO.out.2)
          have HFQ : Hid (D.cutK S (k + 1) = E.fated 0 x) := hide (by rw [HKK.out]; exact fated_mod (by omega))
          clear hf3 hq4 hq256
          refine wp_region_text 12 [] [] [] (fun _ => True) (by kernel_rfl) (by kernel_rfl) trivial ?_
          simp only [List.take_succ_cons, List.take_zero, List.drop_succ_cons, List.drop_zero]
          iterate 11 (first | ((refine wpText_h rfl rfl ?_; apply Exists.intro; refine ⟨?_, ?_⟩; next => (go_simp; (try (go_bits; go_simp)); (first | done | with_reducible rfl | (rw [if_neg (by omega)]; (try (go_bits; go_simp)); (first | done | with_reducible rfl)) | (rw [if_pos (by omega)]; (try (go_bits; go_simp)); (first | done | with_reducible rfl))))); (try simp only [Act.put, List.setIfInBounds_toArray, List.set_cons_zero, List.set_cons_succ])) | ((refine wpText_p rfl rfl ?_; apply Exists.intro; refine ⟨?_, ?_⟩; next => (intro w'; go_simp; (try (go_bits; go_simp)); (first | done | with_reducible rfl | (rw [if_neg (by omega)]; (try (go_bits; go_simp)); (first | done | with_reducible rfl)) | (rw [if_pos (by omega)]; (try (go_bits; go_simp)); (first | done | with_reducible rfl))))); (try simp only [Act.put, List.setIfInBounds_toArray, List.set_cons_zero, List.set_cons_succ])) | ((refine wpText_y rfl rfl ?_; apply Exists.intro; refine ⟨?_, ?_⟩; next => (intro w' hS; (first | obtain ⟨_, rfl⟩ := hS | skip); go_simp; (try (go_bits; go_simp)); (first | done | with_reducible rfl | (rw [if_neg (by omega)]; (try (go_bits; go_simp)); (first | done | with_reducible rfl)) | (rw [if_pos (by omega)]; (try (go_bits; go_simp)); (first | done | with_reducible rfl))))); (try simp only [Act.put, List.setIfInBounds_toArray, List.set_cons_zero, List.set_cons_succ])) | (refine wpText_skip (by first | exact .inl rfl | exact .inr (.inl rfl) | exact .inr (.inr rfl)) rfl ?_; (try simp only [Act.put, List.setIfInBounds_toArray, List.set_cons_zero, List.set_cons_succ])))
          refine wpText_h rfl rfl ⟨.agg cx.toArray, ?_, ?_⟩
          · exact exec_load_cells wrT (.tmp 6) rfl wr.heap.size 0 rfl cx (d := _) HB3.out Try.underlying114 rfl (by rw [HLX.out]; kernel_rfl)
          try simp only [Act.put, List.setIfInBounds_toArray, List.set_cons_zero, List.set_cons_succ]
          refine wpText_nil ?_
          go_wp2_with fail
          refine HK.out.mono ?_
          rintro e w4 ⟨rfl, hD4, hO4⟩
          have HD4 := hide hD4
          have HF5 : Hid (Blk w4 wc.heap.size fatT fatL ∧ Only p.vb.ownBlock.toList w2 w4) := hide ⟨hO4.blk HF3.out.1.drew (by
            intro hc
            exact off_ne_blk HD3.out.br HF3.out.1.drew (by decide) (mem_own.1 hc)), HF3.out.2.drew.trans hO4⟩
          clear hD4 hO4 e4 hfc hsc h5
          go_wp2
          refine NoX.normal ?_
          go_wp2
          go_roundw
          case rel => exact ⟨k + 1, by omega, by go_num, hide ⟨by rw [HFQ.out]; exact HD4.out, HF5.out.1, HF5.out.2⟩⟩
          case measure => simp [intOf]; omega
        · have e4 : (q : Int) % 4 = 1 := by omega
          have hfc := hf3.cell (i := 1) rfl
          have HK : Hid (Calls Try.prog 47 #[.pointer (some ⟨p.d, 0, none⟩), .agg cx.toArray] w3.drew (FateS base p E x 1 w3.drew)) := hide (by
            rw [HCC.out]; exact whole_ok base w3.drew p E x HD3.out HXO.out.1 HXO.out.2)
          have HFQ : Hid (D.cutK S (k + 1) = E.fated 1 x) := hide (by rw [HKK.out]; exact fated_mod (by omega))
          clear hf3 hq4 hq256
          refine wp_region_text 12 [] [] [] (fun _ => True) (by kernel_rfl) (by kernel_rfl) trivial ?_
          simp only [List.take_succ_cons, List.take_zero, List.drop_succ_cons, List.drop_zero]
          iterate 11 (first | ((refine wpText_h rfl rfl ?_; apply Exists.intro; refine ⟨?_, ?_⟩; next => (go_simp; (try (go_bits; go_simp)); (first | done | with_reducible rfl | (rw [if_neg (by omega)]; (try (go_bits; go_simp)); (first | done | with_reducible rfl)) | (rw [if_pos (by omega)]; (try (go_bits; go_simp)); (first | done | with_reducible rfl))))); (try simp only [Act.put, List.setIfInBounds_toArray, List.set_cons_zero, List.set_cons_succ])) | ((refine wpText_p rfl rfl ?_; apply Exists.intro; refine ⟨?_, ?_⟩; next => (intro w'; go_simp; (try (go_bits; go_simp)); (first | done | with_reducible rfl | (rw [if_neg (by omega)]; (try (go_bits; go_simp)); (first | done | with_reducible rfl)) | (rw [if_pos (by omega)]; (try (go_bits; go_simp)); (first | done | with_reducible rfl))))); (try simp only [Act.put, List.setIfInBounds_toArray, List.set_cons_zero, List.set_cons_succ])) | ((refine wpText_y rfl rfl ?_; apply Exists.intro; refine ⟨?_, ?_⟩; next => (intro w' hS; (first | obtain ⟨_, rfl⟩ := hS | skip); go_simp; (try (go_bits; go_simp)); (first | done | with_reducible rfl | (rw [if_neg (by omega)]; (try (go_bits; go_simp)); (first | done | with_reducible rfl)) | (rw [if_pos (by omega)]; (try (go_bits; go_simp)); (first | done | with_reducible rfl))))); (try simp only [Act.put, List.setIfInBounds_toArray, List.set_cons_zero, List.set_cons_succ])) | (refine wpText_skip (by first | exact .inl rfl | exact .inr (.inl rfl) | exact .inr (.inr rfl)) rfl ?_; (try simp only [Act.put, List.setIfInBounds_toArray, List.set_cons_zero, List.set_cons_succ])))
          refine wpText_h rfl rfl ⟨.agg cx.toArray, ?_, ?_⟩
          · exact exec_load_cells wrT (.tmp 6) rfl wr.heap.size 0 rfl cx (d := _) HB3.out Try.underlying114 rfl (by rw [HLX.out]; kernel_rfl)
          try simp only [Act.put, List.setIfInBounds_toArray, List.set_cons_zero, List.set_cons_succ]
          refine wpText_nil ?_
          go_wp2_with fail
          refine HK.out.mono ?_
          rintro e w4 ⟨rfl, hD4, hO4⟩
          have HD4 := hide hD4
          have HF5 : Hid (Blk w4 wc.heap.size fatT fatL ∧ Only p.vb.ownBlock.toList w2 w4) := hide ⟨hO4.blk HF3.out.1.drew (by
            intro hc
            exact off_ne_blk HD3.out.br HF3.out.1.drew (by decide) (mem_own.1 hc)), HF3.out.2.drew.trans hO4⟩
          clear hD4 hO4 e4 hfc hsc h5
          go_wp2
          refine NoX.normal ?_
          go_wp2
          go_roundw
          case rel => exact ⟨k + 1, by omega, by go_num, hide ⟨by rw [HFQ.out]; exact HD4.out, HF5.out.1, HF5.out.2⟩⟩
          case measure => simp [intOf]; omega
        · have e4 : (q : Int) % 4 = 2 := by omega
          have hfc := hf3.cell (i := 2) rfl
          have HK : Hid (Calls Try.prog 49 #[.pointer (some ⟨p.d, 0, none⟩), .agg cx.toArray] w3.drew (FateS base p E x 2 w3.drew)) := hide (by
            rw [HCC.out]; exact front_ok base w3.drew p E x HD3.out HXO.out.1 HXO.out.2)
          have HFQ : Hid (D.cutK S (k + 1) = E.fated 2 x) := hide (by rw [HKK.out]; exact fated_mod (by omega))
          clear hf3 hq4 hq256
          refine wp_region_text 12 [] [] [] (fun _ => True) (by kernel_rfl) (by kernel_rfl) trivial ?_
          simp only [List.take_succ_cons, List.take_zero, List.drop_succ_cons, List.drop_zero]
          iterate 11 (first | ((refine wpText_h rfl rfl ?_; apply Exists.intro; refine ⟨?_, ?_⟩; next => (go_simp; (try (go_bits; go_simp)); (first | done | with_reducible rfl | (rw [if_neg (by omega)]; (try (go_bits; go_simp)); (first | done | with_reducible rfl)) | (rw [if_pos (by omega)]; (try (go_bits; go_simp)); (first | done | with_reducible rfl))))); (try simp only [Act.put, List.setIfInBounds_toArray, List.set_cons_zero, List.set_cons_succ])) | ((refine wpText_p rfl rfl ?_; apply Exists.intro; refine ⟨?_, ?_⟩; next => (intro w'; go_simp; (try (go_bits; go_simp)); (first | done | with_reducible rfl | (rw [if_neg (by omega)]; (try (go_bits; go_simp)); (first | done | with_reducible rfl)) | (rw [if_pos (by omega)]; (try (go_bits; go_simp)); (first | done | with_reducible rfl))))); (try simp only [Act.put, List.setIfInBounds_toArray, List.set_cons_zero, List.set_cons_succ])) | ((refine wpText_y rfl rfl ?_; apply Exists.intro; refine ⟨?_, ?_⟩; next => (intro w' hS; (first | obtain ⟨_, rfl⟩ := hS | skip); go_simp; (try (go_bits; go_simp)); (first | done | with_reducible rfl | (rw [if_neg (by omega)]; (try (go_bits; go_simp)); (first | done | with_reducible rfl)) | (rw [if_pos (by omega)]; (try (go_bits; go_simp)); (first | done | with_reducible rfl))))); (try simp only [Act.put, List.setIfInBounds_toArray, List.set_cons_zero, List.set_cons_succ])) | (refine wpText_skip (by first | exact .inl rfl | exact .inr (.inl rfl) | exact .inr (.inr rfl)) rfl ?_; (try simp only [Act.put, List.setIfInBounds_toArray, List.set_cons_zero, List.set_cons_succ])))
          refine wpText_h rfl rfl ⟨.agg cx.toArray, ?_, ?_⟩
          · exact exec_load_cells wrT (.tmp 6) rfl wr.heap.size 0 rfl cx (d := _) HB3.out Try.underlying114 rfl (by rw [HLX.out]; kernel_rfl)
          try simp only [Act.put, List.setIfInBounds_toArray, List.set_cons_zero, List.set_cons_succ]
          refine wpText_nil ?_
          go_wp2_with fail
          refine HK.out.mono ?_
          rintro e w4 ⟨rfl, hD4, hO4⟩
          have HD4 := hide hD4
          have HF5 : Hid (Blk w4 wc.heap.size fatT fatL ∧ Only p.vb.ownBlock.toList w2 w4) := hide ⟨hO4.blk HF3.out.1.drew (by
            intro hc
            exact off_ne_blk HD3.out.br HF3.out.1.drew (by decide) (mem_own.1 hc)), HF3.out.2.drew.trans hO4⟩
          clear hD4 hO4 e4 hfc hsc h5
          go_wp2
          refine NoX.normal ?_
          go_wp2
          go_roundw
          case rel => exact ⟨k + 1, by omega, by go_num, hide ⟨by rw [HFQ.out]; exact HD4.out, HF5.out.1, HF5.out.2⟩⟩
          case measure => simp [intOf]; omega
        · have e4 : (q : Int) % 4 = 3 := by omega
          have hfc := hf3.cell (i := 3) rfl
          have HK : Hid (Calls Try.prog 50 #[.pointer (some ⟨p.d, 0, none⟩), .agg cx.toArray] w3.drew (FateS base p E x 3 w3.drew)) := hide (by
            rw [HCC.out]; exact back_ok base w3.drew p E x HD3.out HXO.out.1 HXO.out.2)
          have HFQ : Hid (D.cutK S (k + 1) = E.fated 3 x) := hide (by rw [HKK.out]; exact fated_mod (by omega))
          clear hf3 hq4 hq256
          refine wp_region_text 12 [] [] [] (fun _ => True) (by kernel_rfl) (by kernel_rfl) trivial ?_
          simp only [List.take_succ_cons, List.take_zero, List.drop_succ_cons, List.drop_zero]
          iterate 11 (first | ((refine wpText_h rfl rfl ?_; apply Exists.intro; refine ⟨?_, ?_⟩; next => (go_simp; (try (go_bits; go_simp)); (first | done | with_reducible rfl | (rw [if_neg (by omega)]; (try (go_bits; go_simp)); (first | done | with_reducible rfl)) | (rw [if_pos (by omega)]; (try (go_bits; go_simp)); (first | done | with_reducible rfl))))); (try simp only [Act.put, List.setIfInBounds_toArray, List.set_cons_zero, List.set_cons_succ])) | ((refine wpText_p rfl rfl ?_; apply Exists.intro; refine ⟨?_, ?_⟩; next => (intro w'; go_simp; (try (go_bits; go_simp)); (first | done | with_reducible rfl | (rw [if_neg (by omega)]; (try (go_bits; go_simp)); (first | done | with_reducible rfl)) | (rw [if_pos (by omega)]; (try (go_bits; go_simp)); (first | done | with_reducible rfl))))); (try simp only [Act.put, List.setIfInBounds_toArray, List.set_cons_zero, List.set_cons_succ])) | ((refine wpText_y rfl rfl ?_; apply Exists.intro; refine ⟨?_, ?_⟩; next => (intro w' hS; (first | obtain ⟨_, rfl⟩ := hS | skip); go_simp; (try (go_bits; go_simp)); (first | done | with_reducible rfl | (rw [if_neg (by omega)]; (try (go_bits; go_simp)); (first | done | with_reducible rfl)) | (rw [if_pos (by omega)]; (try (go_bits; go_simp)); (first | done | with_reducible rfl))))); (try simp only [Act.put, List.setIfInBounds_toArray, List.set_cons_zero, List.set_cons_succ])) | (refine wpText_skip (by first | exact .inl rfl | exact .inr (.inl rfl) | exact .inr (.inr rfl)) rfl ?_; (try simp only [Act.put, List.setIfInBounds_toArray, List.set_cons_zero, List.set_cons_succ])))
          refine wpText_h rfl rfl ⟨.agg cx.toArray, ?_, ?_⟩
          · exact exec_load_cells wrT (.tmp 6) rfl wr.heap.size 0 rfl cx (d := _) HB3.out Try.underlying114 rfl (by rw [HLX.out]; kernel_rfl)
          try simp only [Act.put, List.setIfInBounds_toArray, List.set_cons_zero, List.set_cons_succ]
          refine wpText_nil ?_
          go_wp2_with fail
          refine HK.out.mono ?_
          rintro e w4 ⟨rfl, hD4, hO4⟩
          have HD4 := hide hD4
          have HF5 : Hid (Blk w4 wc.heap.size fatT fatL ∧ Only p.vb.ownBlock.toList w2 w4) := hide ⟨hO4.blk HF3.out.1.drew (by
            intro hc
            exact off_ne_blk HD3.out.br HF3.out.1.drew (by decide) (mem_own.1 hc)), HF3.out.2.drew.trans hO4⟩
          clear hD4 hO4 e4 hfc hsc h5
          go_wp2
          refine NoX.normal ?_
          go_wp2
          go_roundw
          case rel => exact ⟨k + 1, by omega, by go_num, hide ⟨by rw [HFQ.out]; exact HD4.out, HF5.out.1, HF5.out.2⟩⟩
          case measure => simp [intOf]; omega
      · obtain rfl : k = n := by omega
        obtain ⟨hd, -, ho⟩ := HI.out
        obtain ⟨kc, kb, ko, -, -, -⟩ := D.cutK_keep S k
        obtain ⟨E, hE⟩ : ∃ E, E = D.cutK S k := ⟨_, rfl⟩
        rw [← hE] at hd kc kb ko
        have hme := hd.me
        obtain ⟨As, cs5, hvs⟩ := off_shape hd.sr
        obtain ⟨Av, cv5, hvb⟩ := off_shape hd.br
        obtain ⟨ns, hns⟩ : ∃ ns, ns = E.script.length := ⟨_, rfl⟩
        unfold Dk.cells at hme
        rw [hvs, HVC.out, ← HNN.out, ← hns] at hme
        have d1 := hme.cell (i := 1) rfl
        have d2 := hme.cell (i := 2) rfl
        have d3 := hme.cell (i := 3) rfl
        have d4 := hme.cell (i := 4) rfl
        have f0 := fun i => hme.frozen i
        have hlt3 := hme.lt
        have hb9 := build_plan
        have HD := hide hd
        have HME := hide hme
        have HKC := hide (And.intro kc (And.intro kb ko))
        have HEE := hide hE
        have HO9 := hide ho
        have HVS := hide hvs
        clear hd hme kc kb ko hE ho hvs hvb hns HI c1
        go_wp2
        go_end0
        have ho5 : Only [p.d] wr ((((wr.setCell ⟨p.d, 1, none⟩ (.slice none 0 0)).setCell ⟨p.d, 2, none⟩ (.bool true)).setCell ⟨p.d, 3, none⟩ (I64 0)).setCell ⟨p.d, 4, none⟩ (.slice none 0 0)) :=
          ((((Only.refl _ wr).set (p := ⟨p.d, 1, none⟩) (.inl (by simp)) _).set (p := ⟨p.d, 2, none⟩) (.inl (by simp)) _).set (p := ⟨p.d, 3, none⟩) (.inl (by simp)) _).set (p := ⟨p.d, 4, none⟩) (.inl (by simp)) _
        have hcut : D.cut s = E.dark := by
          unfold Dk.cut
          rw [if_neg (by rw [HF.out]; decide), ← HSS.out, ← HNN.out, ← HEE.out]
        refine ⟨rfl, ?_, ?_⟩
        · rw [if_neg (by rw [HF.out]; decide), hcut]
          exact ⟨(((HME.out.set 1 _).set 2 _).set 3 _).set 4 _, off_only HD.out.br ho5 (fun j hj hm => by
            simp at hm
            subst hm
            exact off_ne_blk HD.out.br HME.out (by decide) hj), off_nil _ _ _ _, off_nil _ _ _ _, HD.out.ok.dark⟩
        · exact (((HO2.out.mono (by simp)).trans (HO9.out.mono (by intro j hj _; simp at hj ⊢; exact .inr hj))).trans (ho5.mono (by intro j hj _; simp at hj ⊢; exact .inl hj)))

end Go.Proofs.Ytabdahojgmbgdaa
