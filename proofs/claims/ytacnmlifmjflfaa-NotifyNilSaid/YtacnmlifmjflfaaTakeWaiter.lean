/- DeleteFunc over a closure, at waiter. -/
import Derived.Test.YtacnmlifmjflfaaWalkA
namespace Go.Proofs.Ytacnmlifmjflfaa
open Go.RowKit

theorem index_loadwaiter {w : World} {g : Nat} {xs : List Tywaiter} {rest : List Value} (h : Blk w g 91 (xs.flatMap encwaiter ++ rest)) {k : Nat} {x : Tywaiter} (hx : xs[k]? = some x) :
    ∀ j v, (encwaiter x)[j]? = some v → w.cell? ⟨g, k * 3 + j, none⟩ = some v := by
  intro j v hv
  have := flat_at (sz := 3) (enc := encwaiter) (fun _ => rfl) xs k x j v hx hv
  refine h.cell ?_
  rw [List.getElem?_append_left (List.getElem?_eq_some_iff.1 this).1]
  exact this

set_option maxHeartbeats 2000000 in
theorem indexwaiter_ok {σ : Type} (g n cap : Nat) (F : FuncId) (caps : Array Value) (X : Tywaiter → Prop) (R : σ → World → Prop) (lim : σ → Nat) (p : σ → Tywaiter → Bool) (f : σ → Tywaiter → σ) (xs : List Tywaiter) (rest : List Value) (s : σ) (w : World)
    (hP : PredOk F caps encwaiter g 91 X R lim p f) (hX : ∀ x ∈ xs, X x) (hL : n ≤ lim s) (hR : R s w) (hb : Blk w g 91 (xs.flatMap encwaiter ++ rest)) (hn : xs.length = n) (hm : n ≤ 1000000) :
    Calls Try.prog 74 #[.slice (some ⟨g, 0, none⟩) n cap, .func (.func F) #[] caps] w
      fun e w' => e = .returned (I64 (fres (findS p f s xs 0).1)) ∧ R (findS p f s xs 0).2 w' ∧ Blk w' g 91 (xs.flatMap encwaiter ++ rest) ∧ w.heap.size ≤ w'.heap.size := by
  have HP := hide hP
  have HXX := hide hX
  have HN := hide hn
  have hst : Hid (R s w ∧ Blk w g 91 (xs.flatMap encwaiter ++ rest)) := hide ⟨hR, hb⟩
  clear hP hX hn hR hb
  go_enter Try.func74, Try.ntmps74
  go_wp2
  go_loopw [8] (fun i wr => ∃ (k : Nat) (s' : σ), k ≤ n ∧ n ≤ lim s' + k ∧ i = .int .i64 k ∧ Hid (R s' wr ∧ Blk wr g 91 (xs.flatMap encwaiter ++ rest) ∧ findS p f s xs 0 = findS p f s' (xs.drop k) k ∧ w.heap.size ≤ wr.heap.size)) (fun i _ => n - (intOf i).toNat)
  case atStart => exact ⟨0, s, Nat.zero_le _, by omega, rfl, hide ⟨hst.out.1, hst.out.2, by simp, Nat.le_refl _⟩⟩
  case round =>
    obtain ⟨k, s', hk, hlm, rfl, H⟩ := hrel
    clear hst
    rcases Nat.lt_or_ge k n with hlt | hge
    · obtain ⟨x, hx⟩ : ∃ x, xs[k]? = some x := ⟨_, List.getElem?_eq_getElem (by rw [HN.out]; exact hlt)⟩
      have hload := index_loadwaiter H.out.2.1 hx
      have hdrop := hide (show xs.drop k = x :: xs.drop (k + 1) by rw [List.drop_eq_getElem_cons (by rw [HN.out]; exact hlt)]; congr 1; exact (List.getElem?_eq_some_iff.1 hx).2)
      have HLD := hide hload
      have hXx : X x := HXX.out x (List.mem_of_getElem? hx)
      clear hload hx
      go_wp2_with (refine wpList_load_cells rfl 91 (.tmp 14) rfl g (k * 3) rfl (encwaiter x) (d := _) HLD.out Try.underlying91 rfl (by kernel_rfl) ?_)
      rw [HP.out.enter]
      refine (HP.out.call s' x wr wr hXx (by omega) H.out.1 (.same (Only.refl _ _) H.out.2.1)).mono ?_
      rintro e w1 ⟨rfl, hR1, hg1, -, hs1⟩
      have H1 : Hid (R (f s' x) w1 ∧ Blk w1 g 91 (xs.flatMap encwaiter ++ rest) ∧ w.heap.size ≤ w1.heap.size) :=
        hide ⟨hR1, by unfold Blk; rw [hg1]; exact H.out.2.1, Nat.le_trans H.out.2.2.2 hs1⟩
      clear hR1 hg1 hs1
      cases hp : p s' x
      · have HF : Hid (findS p f s xs 0 = findS p f (f s' x) (xs.drop (k + 1)) (k + 1)) := hide (by rw [H.out.2.2.1, hdrop.out, findS_no (by simp [hp])])
        clear H
        go_wp2
        go_roundw
        case rel => exact ⟨k + 1, f s' x, by omega, by have := HP.out.left s' x; omega, by go_num, hide ⟨H1.out.1, H1.out.2.1, HF.out, H1.out.2.2⟩⟩
        case measure => simp [intOf]; omega
      · have HF : Hid (findS p f s xs 0 = (some k, f s' x)) := hide (by rw [H.out.2.2.1, hdrop.out, findS_yes hp])
        clear H
        go_wp2
        go_ret
        rw [HF.out]
        exact ⟨rfl, H1.out.1, H1.out.2.1, H1.out.2.2⟩
    · obtain rfl : k = n := by omega
      have HF : Hid (findS p f s xs 0 = (none, s')) := hide (by rw [H.out.2.2.1, List.drop_eq_nil_of_le (by rw [HN.out]; exact Nat.le_refl _)]; rfl)
      go_wp2
      go_ret
      rw [HF.out]
      exact ⟨rfl, H.out.1, H.out.2.1, H.out.2.2.2⟩

/-- What holds while elements are dropped: i elements are kept so far, those from j on were not asked yet. -/
def Delwaiter {σ : Type} (g n : Nat) (R : σ → World → Prop) (lim : σ → Nat) (p : σ → Tywaiter → Bool) (f : σ → Tywaiter → σ) (xs : List Tywaiter) (s : σ) (len lo : Nat) (i j : Nat) (w : World) : Prop :=
  ∃ (L : List Tywaiter) (s' : σ) (rest : List Value), R s' w ∧ Blk w g 91 (L.flatMap encwaiter ++ rest) ∧ L.length = n ∧ L.drop j = xs.drop j ∧ rest.length = len ∧
    keepS p f s xs = (L.take i ++ (keepS p f s' (xs.drop j)).1, (keepS p f s' (xs.drop j)).2) ∧ lo ≤ w.heap.size ∧ n ≤ lim s' + j

/-- What is known behind DeleteFunc. -/
def Keptwaiter {σ : Type} (g n : Nat) (R : σ → World → Prop) (r : List Tywaiter × σ) (len lo : Nat) (w : World) : Prop :=
  ∃ rest : List Value, R r.2 w ∧ Blk w g 91 (r.1.flatMap encwaiter ++ rest) ∧ rest.length + r.1.length * 3 = len + n * 3 ∧ r.1.length ≤ n ∧ lo ≤ w.heap.size

theorem one_waiter (x : Tywaiter) (hx : ∀ v ∈ encwaiter x, v.oneCell' = true) : ∀ v ∈ encwaiter x, v.oneCell' = true := hx

set_option maxHeartbeats 4000000 in
theorem delwaiter_ok {σ : Type} (g n cap : Nat) (F : FuncId) (caps : Array Value) (X : Tywaiter → Prop) (R : σ → World → Prop) (lim : σ → Nat) (p : σ → Tywaiter → Bool) (f : σ → Tywaiter → σ) (xs : List Tywaiter) (rest : List Value) (s : σ) (w : World)
    (hP : PredOk F caps encwaiter g 91 X R lim p f) (hX : ∀ x ∈ xs, X x) (hL : n ≤ lim s) (hR : R s w) (hb : Blk w g 91 (xs.flatMap encwaiter ++ rest)) (hn : xs.length = n) (hm : n ≤ 1000000) (hc : n ≤ cap) (hone : ∀ (x : Tywaiter), ∀ v ∈ encwaiter x, v.oneCell' = true) :
    Calls Try.prog 60 #[.slice (some ⟨g, 0, none⟩) n cap, .func (.func F) #[] caps] w
      fun e w' => e = .returned (.slice (some ⟨g, 0, none⟩) (keepS p f s xs).1.length cap) ∧ Keptwaiter g n R (keepS p f s xs) rest.length w.heap.size w' := by
  have HP := hide hP
  have HN := hide hn
  have HI := hide (indexwaiter_ok g n cap F caps X R lim p f xs rest s w hP hX hL hR hb hn hm)
  have HONE := hide hone
  have HXX := hide hX
  clear hP hX hn hR hb hone
  go_enter Try.func60, Try.ntmps60
  go_wp2_with fail
  refine (HI.out).mono ?_
  rintro e w1 ⟨rfl, hR1, hb1, hs1⟩
  clear HI
  generalize hfs : findS p f s xs 0 = q at *
  obtain ⟨o, s1⟩ := q
  cases o with
  | none =>
    have hk := hide (findS_none hfs)
    have H1 := hide (show _ ∧ _ ∧ _ from ⟨hR1, hb1, hs1⟩)
    clear hR1 hb1 hs1 hfs
    simp only [fres]
    go_wp2
    go_ret
    rw [hk.out]
    exact ⟨by rw [← HN.out]; rfl, rest, H1.out.1, H1.out.2.1, by simp [HN.out], by simp [HN.out], H1.out.2.2⟩
  | some i0 =>
    obtain ⟨-, hi0, hk0⟩ := findS_some hfs
    have hlm := findS_lim HP.out.left hfs
    have hi1 : i0 < n := by rw [← HN.out]; omega
    have H1 : Hid (Delwaiter g n R lim p f xs s rest.length w.heap.size i0 (i0 + 1) w1) := hide ⟨xs, s1, rest, hR1, hb1, HN.out, rfl, rfl, by simpa using hk0, hs1, by omega⟩
    clear hR1 hb1 hs1 hfs hk0 hi0 hlm hL
    simp only [fres]
    go_wp2
    go_loopw [5, 6] (fun i j wr => ∃ ki kj : Nat, ki < kj ∧ kj ≤ n ∧ i = .int .i64 ki ∧ j = .int .i64 kj ∧ Hid (Delwaiter g n R lim p f xs s rest.length w.heap.size ki kj wr)) (fun _ j _ => n - (intOf j).toNat)
    case atStart => exact ⟨i0, i0 + 1, by omega, by omega, rfl, by go_num, H1⟩
    case round =>
      obtain ⟨ki, kj, hij, hkj, rfl, rfl, HD⟩ := hrel
      clear H1
      rcases Nat.lt_or_ge kj n with hlt | hge
      · obtain ⟨L, s', rs, dR, dB, dL, dD, dr, dK, dlo, dlm⟩ := HD.out
        obtain ⟨x, hx⟩ : ∃ x, L[kj]? = some x := ⟨_, List.getElem?_eq_getElem (by omega)⟩
        have HLD := hide (index_loadwaiter dB hx)
        have HS : Hid (R s' wr ∧ Blk wr g 91 (L.flatMap encwaiter ++ rs) ∧ L.length = n ∧ L.drop kj = xs.drop kj ∧ rs.length = rest.length ∧
            keepS p f s xs = (L.take ki ++ (keepS p f s' (xs.drop kj)).1, (keepS p f s' (xs.drop kj)).2) ∧ w.heap.size ≤ wr.heap.size) := hide ⟨dR, dB, dL, dD, dr, dK, dlo⟩
        have HX := hide hx
        have hglt := dB.lt
        clear dR dB dL dD dr dK dlo hx HD
        go_wp2_with (first
          | refine wpList_load_cells rfl 91 (.tmp 24) rfl g (kj * 3) rfl (encwaiter x) (d := _) HLD.out Try.underlying91 rfl (by kernel_rfl) ?_
          | (refine wpList_store_cells rfl 91 (.tmp 7) (.tmp 25) rfl wr.heap.size 0 rfl (encwaiter x) rfl 91 zswaiter (Blk.newA rfl) (by exact Nat.le_refl _) (by kernel_rfl) (HONE.out x) ?_; intro w2 hw2
             have HB2 : Hid (Blk w2 wr.heap.size 91 (encwaiter x)) := hide (Blk.to hw2.1 (by simp [zswaiter, encwaiter]))
             have HO2 : Hid (Only [] wr w2) := hide (((Only.refl [] wr).alloc _).trans' hw2.2.1 (by intro i hi h; simp at hi; omega))
             clear hw2)
          | refine wpList_load_cells rfl 91 (.tmp 7) rfl wr.heap.size 0 rfl (encwaiter x) (d := _) (fun j v hv => by rw [Nat.zero_add]; exact HB2.out.cell hv) Try.underlying91 rfl (by kernel_rfl) ?_)
        have HDX := hide (show xs.drop kj = x :: xs.drop (kj + 1) by
          rw [← HS.out.2.2.2.1, List.drop_eq_getElem_cons (by rw [HS.out.2.2.1]; exact hlt), (List.getElem?_eq_some_iff.1 HX.out).2]
          congr 1
          have := congrArg (List.drop 1) HS.out.2.2.2.1
          simpa [List.drop_drop, Nat.add_comm] using this)
        have hXx : X x := HXX.out x (by have h := HDX.out; exact List.mem_of_mem_drop (i := kj) (by rw [h]; simp))
        rw [HP.out.enter]
        refine (HP.out.call s' x wr w2 hXx (by omega) HS.out.1 (.same HO2.out HS.out.2.1)).mono ?_
        rintro e w3 ⟨rfl, hR3, hg3, hk3, hs3⟩
        have H3 : Hid (R (f s' x) w3 ∧ Blk w3 g 91 (L.flatMap encwaiter ++ rs) ∧ Blk w3 wr.heap.size 91 (encwaiter x) ∧ w.heap.size ≤ w3.heap.size) :=
          hide ⟨hR3, by unfold Blk; rw [hg3]; exact HO2.out.blk HS.out.2.1 (by simp), hk3 _ _ (Nat.le_refl _) HB2.out,
            Nat.le_trans HS.out.2.2.2.2.2.2 (Nat.le_trans HO2.out.size hs3)⟩
        clear hR3 hg3 hk3 hs3
        cases hp : p s' x
        · have HLE : Hid (ki * 3 + 3 ≤ (L.flatMap encwaiter ++ rs).length) := hide (by rw [List.length_append, flat_len (sz := 3) (fun _ => rfl), HS.out.2.2.1]; omega)
          go_wp2_with (first
            | refine wpList_load_cells rfl 91 (.tmp 7) rfl wr.heap.size 0 rfl (encwaiter x) (d := _) (fun j v hv => by rw [Nat.zero_add]; exact H3.out.2.2.1.cell hv) Try.underlying91 rfl (by kernel_rfl) ?_
            | (refine wpList_store_cells rfl 91 (.tmp 33) (.tmp 32) rfl g (ki * 3) rfl (encwaiter x) rfl 91 (L.flatMap encwaiter ++ rs) H3.out.2.1 HLE.out (by kernel_rfl) (HONE.out x) ?_; intro w4 hw4
               have HN2 : Hid (Delwaiter g n R lim p f xs s rest.length w.heap.size (ki + 1) (kj + 1) w4) := hide ⟨L.set ki x, f s' x, rs, HP.out.stable _ _ _ H3.out.1 (.stored hw4 H3.out.2.1),
                 Blk.to hw4.1 (flat_set (sz := 3) (fun _ => rfl) L rs ki x (by rw [HS.out.2.2.1]; omega)), by rw [List.length_set]; exact HS.out.2.2.1, by
                   rw [List.drop_set_of_lt (by omega)]
                   have := congrArg (List.drop 1) HS.out.2.2.2.1
                   simpa [List.drop_drop, Nat.add_comm] using this, HS.out.2.2.2.2.1, by
                   rw [HS.out.2.2.2.2.2.1, HDX.out, keepS_no (by simp [hp]), take_set_one x L ki (by rw [HS.out.2.2.1]; omega)]; simp, by rw [hw4.2.2]; exact H3.out.2.2.2, by have := HP.out.left s' x; omega⟩
               clear hw4 HS HDX))
          go_roundw
          case rel => (repeat apply Exists.intro); exact ⟨⟨ki + 1, kj + 1, by omega, by omega, by go_num, by go_num, HN2⟩, rfl⟩
          case measure => simp [intOf]; omega
        · have HN2 : Hid (Delwaiter g n R lim p f xs s rest.length w.heap.size ki (kj + 1) w3) := hide ⟨L, f s' x, rs, H3.out.1, H3.out.2.1, HS.out.2.2.1, by
              have := congrArg (List.drop 1) HS.out.2.2.2.1
              simpa [List.drop_drop, Nat.add_comm] using this, HS.out.2.2.2.2.1, by rw [HS.out.2.2.2.2.2.1, HDX.out, keepS_yes hp], H3.out.2.2.2, by have := HP.out.left s' x; omega⟩
          clear HS
          go_wp2
          go_roundw
          case rel => (repeat apply Exists.intro); exact ⟨⟨ki, kj + 1, by omega, by omega, rfl, by go_num, HN2⟩, rfl⟩
          case measure => simp [intOf]; omega
      · obtain rfl : kj = n := by omega
        obtain ⟨L, s', rs, dR, dB, dL, dD, dr, dK, dlo, dlm⟩ := HD.out
        have hnil : xs.drop kj = [] := List.drop_eq_nil_of_le (by rw [HN.out]; exact Nat.le_refl _)
        rw [hnil] at dK
        obtain ⟨w2, hcl, vs, hvs, hst⟩ := run_clear_cells (P := Try.prog) wr g (ki * 3) (kj - ki) (cap - ki) 78 91 91 (.agg zswaiter.toArray) 3 (L.flatMap encwaiter ++ rs) dB
          Try.underlying78 (fun w => by kernel_rfl) rfl (by rw [List.length_append, flat_len (sz := 3) (fun _ => rfl), dL]; have := Nat.sub_add_cancel (Nat.le_of_lt hij); rw [Nat.sub_mul]; omega) (by simp [zswaiter, Value.cells, Value.oneCell'])
        have HK : Hid (Keptwaiter g kj R (keepS p f s xs) rest.length w.heap.size w2) := hide (by
          rw [dK]
          have hlt : (L.take ki).length = ki := by rw [List.length_take]; omega
          refine ⟨vs ++ rs, HP.out.stable _ _ _ dR (.stored hst dB), Blk.to hst.1 ?_, ?_, ?_, ?_⟩
          · have e1 : L.flatMap encwaiter = (L.take ki).flatMap encwaiter ++ (L.drop ki).flatMap encwaiter := by rw [← List.flatMap_append, List.take_append_drop]
            have e2 : ((L.take ki).flatMap encwaiter).length = ki * 3 := by rw [flat_len (sz := 3) (fun _ => rfl), hlt]
            have e3 : ((L.drop ki).flatMap encwaiter).length = vs.length := by rw [flat_len (sz := 3) (fun _ => rfl), hvs, List.length_drop, dL]
            simp only [keepS, List.append_nil]
            rw [e1]
            simp only [List.append_assoc]
            rw [← e2, List.take_left, ← e3, ← List.drop_drop, List.drop_left, List.drop_left]
          · simp only [keepS, List.append_nil]
            rw [hlt, List.length_append, hvs, dr, Nat.sub_mul]
            have : ki * 3 ≤ kj * 3 := Nat.mul_le_mul_right _ (Nat.le_of_lt hij)
            omega
          · simp only [keepS, List.append_nil]
            omega
          · rw [hst.2.2]; exact dlo)
        have HLEN : Hid ((keepS p f s xs).1.length = ki) := hide (by rw [dK]; simp only [keepS, List.append_nil]; rw [List.length_take]; omega)
        clear dR dB dL dD dr dK dlo hst hvs hnil HD
        have hkc : ki ≤ cap := by omega
        go_wp2_with fail
        go_ret
        rw [HLEN.out]
        exact ⟨rfl, HK.out⟩

/-- What take's inner closure knows: the closure that is asked, and what was taken so far. -/
def Takeswaiter {σ : Type} (F : FuncId) (caps : Array Value) (R : σ → World → Prop) (g b0 wb ob N : Nat) (q : σ × List Tywaiter) (w : World) : Prop :=
  R q.1 w ∧ Blk w wb 94 [.func (.func F) #[] caps] ∧ b0 ≤ w.heap.size ∧ g < b0 ∧ q.2.length ≤ N ∧ ∃ v, Blk w ob 78 [v] ∧ w.ownsRow b0 91 3 v q.2.length (q.2.flatMap encwaiter)

theorem waiter_info : (Try.prog.info? 91).map (fun i => (i.zero, i.size, i.bytes)) = some (some (.agg zswaiter.toArray), 3, 40) := by kernel_rfl

set_option maxRecDepth 100000 in
set_option maxHeartbeats 4000000 in
theorem take1waiter_ok {σ : Type} (base g b0 wb ob N : Nat) (F : FuncId) (caps : Array Value) (Us : List TypeId) (X : Tywaiter → Prop) (R : σ → World → Prop) (lim : σ → Nat) (p : σ → Tywaiter → Bool) (f : σ → Tywaiter → σ) (s : σ) (out : List Tywaiter) (x : Tywaiter) (w0 w : World)
    (hP : WantOk base F caps encwaiter Us [91, 78] X R lim p f) (hU : 91 ∉ Us ∧ 78 ∉ Us ∧ 94 ∉ Us) (hN : N ≤ 1000000) (hXx : X x) (hls : 0 < lim s) (hlt : out.length < N) (hbg : base ≤ g) (hbo : base ≤ ob)
    (hR : Takeswaiter F caps R g b0 wb ob N (s, out) w0) (hg : OnlyG g 91 w0 w) (hone : ∀ (x : Tywaiter), ∀ v ∈ encwaiter x, v.oneCell' = true) :
    Calls Try.prog 61 #[.agg (encwaiter x).toArray, .pointer (some ⟨wb, 0, none⟩), .pointer (some ⟨ob, 0, none⟩)] w fun e w' =>
      e = .returned (.bool (p s x)) ∧ Takeswaiter F caps R g b0 wb ob N (f s x, tookS (p s x) out x) w' ∧ w'.heap[g]? = w.heap[g]? ∧ (∀ k cs, w0.heap.size ≤ k → Blk w k 91 cs → Blk w' k 91 cs) ∧ w.heap.size ≤ w'.heap.size := by
  have HP := hide hP
  have HONE := hide hone
  have HU := hide hU
  obtain ⟨r1, r2, r3, r4, r5, v, r6, r7⟩ := hR
  have hne : wb ≠ g := by
    obtain ⟨cs, hc⟩ := hg.2.1
    exact Ne.symm (hc.ne r2 (by decide))
  have hne2 : ob ≠ g := by
    obtain ⟨cs, hc⟩ := hg.2.1
    exact Ne.symm (hc.ne r6 (by decide))
  have hW : Hid (R s w ∧ Blk w wb 94 [.func (.func F) #[] caps] ∧ Blk w ob 78 [v] ∧ w.ownsRow b0 91 3 v out.length (out.flatMap encwaiter) ∧ b0 ≤ w.heap.size) :=
    hide ⟨HP.out.stable _ _ _ r1 (hg.onlyT (by simp) hbg), hg.1.blk r2 (by simp [hne]), hg.1.blk r6 (by simp [hne2]), own_only r7 hg.1 (by
      intro k hk
      obtain ⟨h1, -⟩ := own_hasT (Ts := [91]) r7 (by simp) (Nat.le_refl _) k hk
      simp; omega), Nat.le_trans r3 hg.1.size⟩
  have hv : ∃ A c, v = .slice A out.length c := own_shape r7
  have HROW : Hid (∀ k, v.ownBlock = some k → b0 ≤ k ∧ k < w0.heap.size) := hide fun k hk => r7.lt k hk
  have HG := hide hg
  have hwb := (hg.1.blk r2 (by simp [hne])).lt
  have hob := (hg.1.blk r6 (by simp [hne2])).lt
  have e1 := (hg.1.blk r2 (by simp [hne])).cell (i := 0) rfl
  have e2 := (hg.1.blk r6 (by simp [hne2])).cell (i := 0) rfl
  clear hP hone hU r1 r2 r3 r6 r7 hg
  go_enter Try.func61, Try.ntmps61
  go_wp2_with (first
    | refine wpList_load_cells rfl 91 (.tmp 3) rfl w.heap.size 0 rfl (encwaiter x) (d := _) (fun j v hv => by rw [Nat.zero_add]; exact (Blk.new w _ _).cell hv) Try.underlying91 rfl (by kernel_rfl) ?_)
  rw [HP.out.enter]
  refine (HP.out.call s x _ hXx hls (HP.out.stable _ _ _ hW.out.1 (.of_nil ((Only.refl [] w).alloc _)))).mono ?_
  rintro e w2 ⟨rfl, hR2, ho2⟩
  have ha := (Only.refl [] w).alloc (.cells (encwaiter x).toArray 91)
  have H2 : Hid (R (f s x) w2 ∧ Blk w2 wb 94 [.func (.func F) #[] caps] ∧ Blk w2 ob 78 [v] ∧ w2.ownsRow b0 91 3 v out.length (out.flatMap encwaiter) ∧ Blk w2 w.heap.size 91 (encwaiter x) ∧ w.heap.size < w2.heap.size) :=
    hide ⟨hR2, ho2.blk (ha.blk hW.out.2.1 (by simp)) HU.out.2.2, ho2.blk (ha.blk hW.out.2.2.1 (by simp)) HU.out.2.1, ho2.own (own_nil hW.out.2.2.2.1 ha) HU.out.1, ho2.blk (Blk.new w _ _) HU.out.1, Nat.lt_of_lt_of_le (Blk.new w _ _).lt ho2.size⟩
  have HK2 : Hid (∀ k cs, Blk w k 91 cs → Blk w2 k 91 cs) := hide fun k cs hk => ho2.blk (ha.blk hk (by simp)) HU.out.1
  have f2 := H2.out.2.2.1.cell (i := 0) rfl
  clear hR2 ho2 ha e1 e2
  cases hp : p s x
  · go_wp2
    go_ret
    obtain ⟨cs, hc⟩ := HG.out.2.2
    rw [hp]
    exact ⟨rfl, ⟨H2.out.1, H2.out.2.1, by have := H2.out.2.2.2.2.2; have := hW.out.2.2.2.2; omega, r4, r5, v, H2.out.2.2.1, H2.out.2.2.2.1⟩, (show _ = _ from (HK2.out _ _ hc).trans hc.symm), fun k cs _ hk => HK2.out k cs hk, Nat.le_of_lt H2.out.2.2.2.2.2⟩
  · obtain ⟨A, c, rfl⟩ := hv
    obtain ⟨i0, hi0, hz0, hs0, hb0⟩ := info_parts waiter_info
    have f2f := H2.out.2.2.1.frozen 0
    have hb2 : ob < w2.heap.size := H2.out.2.2.1.lt
    have hbw : b0 ≤ w2.heap.size := by have := H2.out.2.2.2.2.2; have := hW.out.2.2.2.2; omega
    go_wp2_with (first
      | refine wpList_load_cells rfl 91 (.tmp 3) rfl w.heap.size 0 rfl (encwaiter x) (d := _) (fun j v hv => by rw [Nat.zero_add]; exact H2.out.2.2.2.2.1.cell hv) Try.underlying91 rfl (by kernel_rfl) ?_
      | (at_builtin; refine wpList_append_own _ rfl (.tmp 9) (.tmp 11) 78 rfl b0 91 i0 (.agg zswaiter.toArray) 3 40 Try.underlying78 hi0 hz0 hs0 hb0 rfl (by decide) (.slice A out.length c) out.length (out.flatMap encwaiter) rfl ?_ ⟨w2.heap.size, 0, none⟩ 1 1 (encwaiter x) rfl rfl ?_ ?_ ?_ ?_ ?_ ?_))
    · exfalso; rename_i h; revert h; simp [encwaiter]
    · exact H2.out.2.2.2.1.alloc _
    · intro j u hu
      rw [show (⟨w2.heap.size, 0, none⟩ : Addr).add j = ⟨w2.heap.size, j, none⟩ by unfold Addr.add; split <;> simp_all]
      exact (Blk.to (Blk.newA rfl) rfl).cell hu
    · exact HONE.out x
    · unfold maxLen; omega
    · omega
    · exact Nat.le_trans hbw (by show w2.heap.size ≤ (w2.heap.push _).size; rw [Array.size_push]; omega)
    · intro v3 w3 hown3 hgrow _
      obtain ⟨A3, c3, rfl⟩ := own_shape hown3
      have hnb := own_ne_blk H2.out.2.2.2.1 H2.out.2.2.1 (by decide)
      have hb3 := (H2.out.2.2.1.alloc _).grown hgrow hnb
      have d3 := hb3.cell (i := 0) rfl
      have k3 := hb3.frozen 0
      have HB3 := hide hb3
      have HT : Hid (OnlyT [91, 78] base w2 w3) := hide ((OnlyT.of_nil ((Only.refl [] w2).alloc _)).trans (OnlyT.grown (H2.out.2.2.2.1.alloc _) (by simp) (by omega) hgrow))
      have HS : Hid (∀ k cs, (Value.slice A out.length c).ownBlock ≠ some k → Blk w2 k 91 cs → Blk w3 k 91 cs) := hide fun k cs hn hk => (hk.alloc _).grown hgrow hn
      have HW3 := hide hown3
      have hsz := HT.out.size
      have hne3 := own_ne_blk hown3 hb3 (by decide)
      clear hb3 hown3 hgrow f2 f2f hnb
      go_wp2
      go_ret
      obtain ⟨cs, hc⟩ := HG.out.2.2
      have hset : Only [ob] w3 (w3.setCell ⟨ob, 0, none⟩ (.slice A3 (out.length + 1) c3)) := (Only.refl [ob] w3).set (.inl (by simp)) _
      have hnob : ∀ k cs, Blk w k 91 cs → k ≠ ob := fun k cs hk => hk.ne hW.out.2.2.1 (by decide)
      rw [hp]
      refine ⟨rfl, ⟨HP.out.stable _ _ _ (HP.out.stable _ _ _ H2.out.1 HT.out) (.of_only hset (by intro k hk _; obtain rfl : k = ob := by simpa using hk
                                                                                                 exact ⟨hbo, HB3.out.hasT (by simp)⟩)),
        hset.blk (HT.out.blk H2.out.2.1 (by decide)) (by simpa using H2.out.2.1.ne H2.out.2.2.1 (by decide)), ?_, r4, ?_, _, HB3.out.set 0 _, ?_⟩, ?_, ?_, ?_⟩
      · have := hset.size; omega
      · simp [tookS]; omega
      · have := own_setCell HW3.out (p := ⟨ob, 0, none⟩) hne3 (.slice A3 (out.length + 1) c3)
        simpa [tookS] using this
      · have h1 : Blk w3 g _ cs := HS.out g cs (fun h => by have := (HROW.out g h).1; omega) (HK2.out _ _ hc)
        exact (show _ = _ from (hset.blk h1 (by simpa using hnob _ _ hc)).trans hc.symm)
      · intro k cs hk0 hk
        exact hset.blk (HS.out k cs (fun h => by have := (HROW.out k h).2; omega) (HK2.out _ _ hk)) (by simpa using hnob _ _ hk)
      · have := hset.size; have := H2.out.2.2.2.2.2; omega

theorem Takeswaiter.stable {σ : Type} {base : Nat} {F : FuncId} {caps : Array Value} {Us : List TypeId} {X : Tywaiter → Prop} {R : σ → World → Prop} {lim : σ → Nat} {p : σ → Tywaiter → Bool} {f : σ → Tywaiter → σ} {g b0 wb ob N : Nat} {q : σ × List Tywaiter} {w0 w : World}
    (hP : WantOk base F caps encwaiter Us [91, 78] X R lim p f) (hbg : base ≤ g) (hR : Takeswaiter F caps R g b0 wb ob N q w0) (hg : OnlyG g 91 w0 w) : Takeswaiter F caps R g b0 wb ob N q w := by
  obtain ⟨r1, r2, r3, r4, r5, v, r6, r7⟩ := hR
  have hne : wb ≠ g := by
    obtain ⟨cs, hc⟩ := hg.2.1
    exact Ne.symm (hc.ne r2 (by decide))
  have hne2 : ob ≠ g := by
    obtain ⟨cs, hc⟩ := hg.2.1
    exact Ne.symm (hc.ne r6 (by decide))
  exact ⟨hP.stable _ _ _ r1 (hg.onlyT (by simp) hbg), hg.1.blk r2 (by simp [hne]), Nat.le_trans r3 hg.1.size, r4, r5, v, hg.1.blk r6 (by simp [hne2]), own_only r7 hg.1 (by
      intro k hk
      obtain ⟨h1, -⟩ := own_hasT (Ts := [91]) r7 (by simp) (Nat.le_refl _) k hk
      simp; omega)⟩

theorem takePredwaiter {σ : Type} {base g b0 wb ob N : Nat} {F : FuncId} {caps : Array Value} {Us : List TypeId} {X : Tywaiter → Prop} {R : σ → World → Prop} {lim : σ → Nat} {p : σ → Tywaiter → Bool} {f : σ → Tywaiter → σ}
    (hP : WantOk base F caps encwaiter Us [91, 78] X R lim p f) (hU : 91 ∉ Us ∧ 78 ∉ Us ∧ 94 ∉ Us) (hN : N ≤ 1000000) (hbg : base ≤ g) (hbo : base ≤ ob) (hone : ∀ (x : Tywaiter), ∀ v ∈ encwaiter x, v.oneCell' = true) :
    PredOk 61 #[.pointer (some ⟨wb, 0, none⟩), .pointer (some ⟨ob, 0, none⟩)] encwaiter g 91 X (Takeswaiter F caps R g b0 wb ob N) (fun q => min (lim q.1) (N - q.2.length))
      (fun q x => p q.1 x) (fun q x => (f q.1 x, tookS (p q.1 x) q.2 x)) where
  left := fun q x => by
    show min (lim q.1) (N - q.2.length) ≤ min (lim (f q.1 x)) (N - (tookS (p q.1 x) q.2 x).length) + 1
    have h1 := hP.left q.1 x
    have h2 : N - q.2.length ≤ N - (tookS (p q.1 x) q.2 x).length + 1 := by
      cases p q.1 x
      · show N - q.2.length ≤ N - q.2.length + 1; omega
      · show N - q.2.length ≤ N - (q.2 ++ [x]).length + 1; rw [List.length_append, List.length_singleton]; omega
    omega
  enter := fun args w => by kernel_rfl
  call := fun q x w0 w hx hl hR hg => take1waiter_ok base g b0 wb ob N F caps Us X R lim p f q.1 q.2 x w0 w hP hU hN hx (by omega) (by omega) hbg hbo hR hg hone
  stable := fun q w w' hR hg => hR.stable hP hbg hg

end Go.Proofs.Ytacnmlifmjflfaa
