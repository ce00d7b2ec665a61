/- The law SporadicBounds, walked: whatever the parameters and the gaps, it returns true. -/
import Derived.Test.YtdjkgbkckmjfiaaAwake
import Derived.Test.YtdjkgbkckmjfiaaBounds
import Derived.Laws.AppendOwn
import Derived.Laws.OwnMore
import Derived.OwnWalk
namespace Go.Proofs.Ytdjkgbkckmjfiaa
open Go.RowKit

/-- A slice value below block B whose cells read as these numbers of kind kd. -/
def Reads (w : World) (B : Nat) (kd : IntKind) (A : Option Addr) (xs : List Int) : Prop :=
  ∀ k x, xs[k]? = some x → ∃ b o, A = some ⟨b, o, none⟩ ∧ b < B ∧ w.cell? ⟨b, o + k, none⟩ = some (.int kd x)
theorem Reads.only {S : List Nat} {w w' : World} {B : Nat} {kd : IntKind} {A : Option Addr} {xs : List Int} (h : Reads w B kd A xs) (hb : Only S w w') (hB : B ≤ w.heap.size) (hS : ∀ k, k ∈ S → B ≤ k) : Reads w' B kd A xs := by
  intro k x hx
  obtain ⟨b, o, hA, hlt, hc⟩ := h k x hx
  exact ⟨b, o, hA, hlt, by rw [World.cell?_of_block (w := w) (hb.block b (by omega) (fun hm => by have := hS b hm; omega))]; exact hc⟩

theorem own_ne_blk {w : World} {base : Nat} {e t : TypeId} {size n : Nat} {v : Value} {xs : List Value} {g : Nat} {cs : List Value} (h : w.ownsRow base e size v n xs) (hg : Blk w g t cs) (hne : e ≠ t) : v.ownBlock ≠ some g := by
  rcases h.2 with ⟨rfl, _⟩ | ⟨g', cap, cur, rfl, _, hh, _⟩
  · simp [Value.ownBlock]
  · intro he
    have : g' = g := by simpa [Value.ownBlock] using he
    subst this
    unfold Blk at hg
    rw [hg] at hh
    injection hh with hh
    injection hh with _ ht
    exact hne ht.symm
theorem SrvIs.grown {w w' : World} {b g bs : Nat} {s : Srv} {row : Option Nat} (h : SrvIs w b g bs s) (hg : w.grownBy w' row) (hr : ∀ k, row = some k → k ≠ b ∧ k ≠ g ∧ k ≠ bs) : SrvIs w' b g bs s := by
  obtain ⟨fr, buf, me, bufb, box, ring⟩ := h
  have go : ∀ (i : Nat) (t : TypeId) (cs : List Value), Blk w i t cs → (∀ k, row = some k → k ≠ i) → Blk w' i t cs := fun i t cs hb hn => (hg.block i hb.lt (fun e => hn i e.symm rfl)).trans hb
  exact ⟨fr, buf, go _ _ _ me fun k hk => (hr k hk).1, go _ _ _ bufb fun k hk => (hr k hk).2.1, go _ _ _ box fun k hk => (hr k hk).2.2, ring⟩
theorem SrvIs.alloc {w : World} {b g bs : Nat} {s : Srv} (h : SrvIs w b g bs s) (o : Obj) : SrvIs (w.alloc o) b g bs s := by
  obtain ⟨fr, buf, me, bufb, box, ring⟩ := h
  exact ⟨fr, buf, me.alloc o, bufb.alloc o, box.alloc o, ring⟩
theorem SrvIs.apart {w : World} {b g bs : Nat} {s : Srv} (h : SrvIs w b g bs s) {base : Nat} {size n : Nat} {v : Value} {xs : List Value} (ho : w.ownsRow base 2 size v n xs) :
    ∀ k, v.ownBlock = some k → k ≠ b ∧ k ≠ g ∧ k ≠ bs := by
  obtain ⟨fr, buf, me, bufb, box, ring⟩ := h
  intro k hk
  refine ⟨?_, ?_, ?_⟩ <;> rintro rfl
  · exact own_ne_blk ho me (by decide) hk
  · exact own_ne_blk ho bufb (by decide) hk
  · exact own_ne_blk ho box (by decide) hk
theorem ownsRow_only {S : List Nat} {w w' : World} {base : Nat} {e : TypeId} {size n : Nat} {v : Value} {xs : List Value} (h : w.ownsRow base e size v n xs) (ho : Only S w w') (hn : ∀ k, v.ownBlock = some k → k ∉ S) : w'.ownsRow base e size v n xs := by
  obtain ⟨h1, h2⟩ := h
  refine ⟨h1, ?_⟩
  rcases h2 with h2 | ⟨g, cap, cur, rfl, hg, hh, hr⟩
  · exact .inl h2
  · refine .inr ⟨g, cap, cur, rfl, hg, ?_, hr⟩
    have hlt : g < w.heap.size := by
      rcases Nat.lt_or_ge g w.heap.size with hl | hl
      · exact hl
      · rw [Array.getElem?_eq_none hl] at hh; cases hh
    exact (ho.block g hlt (hn g rfl)).trans hh

theorem Blk.grown {w w' : World} {b : Nat} {t : TypeId} {cs : List Value} {row : Option Nat} (h : Blk w b t cs) (hg : w.grownBy w' row) (hn : row ≠ some b) : Blk w' b t cs :=
  (hg.block b h.lt fun e => hn e.symm).trans h
theorem Only.grown {w wr w' : World} {row : Option Nat} (h : Only [] w wr) (hg : wr.grownBy w' row) (hr : ∀ k, row = some k → w.heap.size ≤ k) : Only [] w w' :=
  ⟨hg.os.trans h.os, hg.tape.trans h.tape, hg.output.trans h.output, Nat.le_trans h.size hg.size, fun i hi hn =>
    (hg.block i (Nat.lt_of_lt_of_le hi h.size) fun e => by have := hr i e.symm; omega).trans (h.block i hi hn)⟩

theorem own_reads {w : World} {base : Nat} {e : TypeId} {kd : IntKind} {v : Value} {xs : List Int} (h : w.ownsRow base e 1 v xs.length (xs.map (Value.int kd))) :
    ∃ A c, v = .slice A xs.length c ∧ ∀ k x, xs[k]? = some x → ∃ g, A = some ⟨g, 0, none⟩ ∧ w.cell? ⟨g, k, none⟩ = some (.int kd x) := by
  rcases h.2 with ⟨rfl, hn⟩ | ⟨g, cap, cur, rfl, _, hh, _, _, hsz, htk⟩
  · refine ⟨none, 0, by rw [hn], fun k x hx => ?_⟩
    have := (List.getElem?_eq_some_iff.1 hx).1
    omega
  · refine ⟨_, cap, rfl, fun k x hx => ⟨g, rfl, ?_⟩⟩
    have hlt := (List.getElem?_eq_some_iff.1 hx).1
    have h1 : (xs.map (Value.int kd))[k]? = some (.int kd x) := by simp [hx]
    rw [← htk, List.getElem?_take, if_pos (by omega)] at h1
    simp only [World.cell?, hh]
    simpa using h1

theorem int64_info : (Try.prog.info? 2).map (fun i => (i.zero, i.size, i.bytes)) = some (some (.int .i64 0), 1, 8) := by kernel_rfl

/-- What holds behind k rounds of the first loop. -/
def L1 (w : World) (p : Prm) (gs : List Nat) (b g bs : Nat) (k : Nat) (v nw : Value) (wr : World) : Prop :=
  nw = I64 (played (gs.take k) p).now ∧ SrvIs wr b g bs (played (gs.take k) p).s ∧
  wr.ownsRow w.heap.size 2 1 v (played (gs.take k) p).ran.length ((played (gs.take k) p).ran.map I64) ∧ Only [] w wr ∧
  Blk wr w.heap.size 23 [I64 p.B, I64 p.P, I64 p.N, I64 p.L]

theorem take_snoc' (gs : List Nat) (k x : Nat) (h : gs[k]? = some x) : gs.take (k + 1) = gs.take k ++ [x] := by
  rw [List.take_add_one, h]; rfl

set_option maxHeartbeats 1000000 in
theorem bounds_big (p : Prm) (A : Option Addr) (len cap : Nat) (w : World) (h : p.ok) (hl : 200 < len) (hm : len ≤ maxLen) :
    Calls Try.prog 3 #[.agg #[I64 p.B, I64 p.P, I64 p.N, I64 p.L], .slice A len cap] w fun e w' => e = .returned (.bool true) ∧ Only [] w w' := by
  unfold maxLen at hm
  go_enter Try.func3, Try.ntmps3
  go_wp2_with fail
  refine (new_yes p _ h).mono ?_
  rintro e w1 ⟨b, g, bs, rfl, hs0, hb, hg, hbs, ho⟩
  go_wp2_with fail
  refine (awake_ok _).mono ?_
  rintro e w2 ⟨rfl, ho2⟩
  go_wp2
  go_ret
  exact ⟨rfl, ((Only.refl _ _).alloc _).trans (ho.trans ho2)⟩

set_option maxHeartbeats 1000000 in
theorem bounds_bad (B P N L : Int) (A : Option Addr) (len cap : Nat) (w : World) (h : ¬ okRaw B P N L) :
    Calls Try.prog 3 #[.agg #[I64 B, I64 P, I64 N, I64 L], .slice A len cap] w fun e w' => e = .returned (.bool true) ∧ Only [] w w' := by
  go_enter Try.func3, Try.ntmps3
  go_wp2_with fail
  refine (new_no B P N L _ h).mono ?_
  rintro e w1 ⟨rfl, ho⟩
  go_wp2_with fail
  refine (awake_ok _).mono ?_
  rintro e w2 ⟨rfl, ho2⟩
  go_wp2
  go_ret
  exact ⟨rfl, ((Only.refl _ _).alloc _).trans (ho.trans ho2)⟩

set_option maxHeartbeats 2000000 in
theorem bounds_small (p : Prm) (A : Option Addr) (gs : List Nat) (cap : Nat) (w : World) (h : p.ok) (hl : gs.length ≤ 200) (hg8 : ∀ x ∈ gs, x ≤ 255) (hA : Reads w w.heap.size .u8 A (gs.map fun (x : Nat) => (x : Int))) :
    Calls Try.prog 3 #[.agg #[I64 p.B, I64 p.P, I64 p.N, I64 p.L], .slice A gs.length cap] w fun e w' => e = .returned (.bool true) ∧ Only [] w w' := by
  obtain ⟨i0, hi0, hz0, hs0, hb0⟩ := info_parts int64_info
  go_enter Try.func3, Try.ntmps3
  go_wp2_with fail
  refine (new_yes p _ h).mono ?_
  rintro e w1 ⟨b, g, bs, rfl, hs0', hb, hg, hbs, ho⟩
  have ho1 : Only [] w w1 := ((Only.refl _ _).alloc _).trans ho
  have hbox := ho.blk (Blk.new w 23 [I64 p.B, I64 p.P, I64 p.N, I64 p.L]) (by simp)
  have hst := hide (show L1 w p gs b g bs 0 (.slice none 0 0) (I64 0) w1 from ⟨by simp [played], by simpa [played] using hs0', by simpa [played] using World.ownsRow_nil w1 w.heap.size _ 1, ho1, hbox⟩)
  simp at hb hg hbs
  go_wp2
  go_loopw [7, 8, 9] (fun v nw i wr => ∃ k : Nat, k ≤ gs.length ∧ i = .int .i64 k ∧ L1 w p gs b g bs k v nw wr) (fun _ _ i _ => gs.length - (intOf i).toNat)
  case atStart => exact ⟨0, Nat.zero_le _, rfl, hst.out⟩
  case round =>
    obtain ⟨k, hk, rfl, hn, hsr, hown, hor, hbx⟩ := hrel
    subst hn
    clear hst hbox hs0' ho ho1
    rcases Nat.lt_or_ge k gs.length with hlt | hge
    · obtain ⟨gk, hgk⟩ : ∃ x, gs[k]? = some x := ⟨_, List.getElem?_eq_getElem hlt⟩
      have hg255 : gk ≤ 255 := hg8 gk (List.mem_of_getElem? hgk)
      have hnext := hide (show played (gs.take (k + 1)) p = (played (gs.take k) p).step gk by rw [take_snoc' gs k gk hgk, played_snoc])
      have hInv := hide (played_inv (gs.take k) p h).1
      have hnow := played_now (gs.take k) p (fun y hy => hg8 y (List.mem_of_mem_take hy))
      have hln := played_len (gs.take k) p
      have hk200 : (gs.take k).length ≤ 200 := by simp; omega
      obtain ⟨bA, oA, rfl, hbA, hcA⟩ := (hA.only hor (Nat.le_refl _) (by simp)) k gk (by simp [hgk])
      generalize played (gs.take k) p = X at *
      have hn0 : 0 ≤ X.now := hnow.1
      have hn1 : X.now ≤ 51200 := by omega
      have hr0 : X.ran.length ≤ 200 := by omega
      have HG := hide hgk
      clear hgk hnow hln hk200
      by_cases hz : (X.s.runs X.now).2 = 0
      · have hst1 := hide (show X.step gk = ⟨(X.s.runs X.now).1, X.now + (1 + gk), X.ran ++ [X.now]⟩ by unfold Played.step; rw [if_pos hz])
        go_wp2_with fail
        have hc := run_ok b g bs X.s X.now wr hsr hInv.out
        rw [hz] at hc
        refine hc.mono ?_
        clear hc
        rintro e w2 ⟨rfl, hs2, ho2⟩
        have hown2 := ownsRow_only hown ho2 (fun q hq => by have := hsr.apart hown q hq; simp; exact ⟨this.1, this.2.1⟩)
        have hor2 : Only [] w w2 := hor.trans' ho2 (by simp; omega)
        have hbx2 := ho2.blk hbx (by simp; omega)
        clear hown hor hbx hcA
        go_wp2_with (at_builtin; refine wpList_append_own _ rfl (.tmp 35) (.tmp 37) 30 rfl w.heap.size 2 i0 (.int .i64 0) 1 8 Try.underlying30 hi0 hz0 hs0 hb0 rfl (by decide) _ _ _ rfl (hown2.alloc _) ⟨w2.heap.size, 0, none⟩ 1 1 [I64 X.now] rfl rfl ?_ ?_ ?_ ?_ ?_ ?_)
        · exact (cell_one_new _ _ _)
        · simp [Value.oneCell']
        · unfold maxLen; omega
        · omega
        · have := hor2.size; simp; omega
        intro v' w3 hown3 hgrow _
        have hs3 := (hs2.alloc (Obj.cells #[I64 X.now] 2)).grown hgrow (hs2.apart hown2)
        have hor3 := (hor2.alloc (Obj.cells #[I64 X.now] 2)).grown hgrow (fun q hq => (hown2.lt q hq).1)
        have hbx3 := (hbx2.alloc (Obj.cells #[I64 X.now] 2)).grown hgrow (own_ne_blk hown2 hbx2 (by decide))
        obtain ⟨bA', oA', hAe, _, hcA3⟩ := (hA.only hor3 (Nat.le_refl _) (by simp)) k gk (by simp [HG.out])
        injection hAe with hAe
        injection hAe with hAe1 hAe2
        subst hAe1 hAe2
        clear hgrow hs2 hor2 hbx2 hown2
        go_wp2
        go_roundw
        case rel =>
          refine ⟨k + 1, by omega, by go_num, ?_⟩
          unfold L1
          rw [hnext.out, hst1.out]
          refine ⟨by go_num, hs3, ?_, hor3, hbx3⟩
          simpa using hown3
        case measure => simp [intOf]; omega
      · have hst1 := hide (show X.step gk = ⟨(X.s.runs X.now).1, X.now + (1 + gk), X.ran⟩ by unfold Played.step; rw [if_neg hz])
        have hz' : ((X.s.runs X.now).2 == 0) = false := by simp [hz]
        go_wp2_with fail
        refine (run_ok b g bs X.s X.now wr hsr hInv.out).mono ?_
        rintro e w2 ⟨rfl, hs2, ho2⟩
        have hown2 := ownsRow_only hown ho2 (fun q hq => by have := hsr.apart hown q hq; simp; exact ⟨this.1, this.2.1⟩)
        have hor2 : Only [] w w2 := hor.trans' ho2 (by simp; omega)
        have hbx2 := ho2.blk hbx (by simp; omega)
        obtain ⟨bA', oA', hAe, _, hcA3⟩ := (hA.only hor2 (Nat.le_refl _) (by simp)) k gk (by simp [HG.out])
        injection hAe with hAe
        injection hAe with hAe1 hAe2
        subst hAe1 hAe2
        clear hown hor hbx hcA hz
        go_wp2
        go_roundw
        case rel =>
          refine ⟨k + 1, by omega, by go_num, ?_⟩
          unfold L1
          rw [hnext.out, hst1.out]
          exact ⟨by go_num, hs2, hown2, hor2, hbx2⟩
        case measure => simp [intOf]; omega
    · obtain rfl : k = gs.length := by omega
      have hInv := hide (played_inv gs p h).1
      have hln := played_len gs p
      have hbd := hide (bounds gs p h)
      rw [List.take_length] at hsr hown ⊢
      generalize hXe : played gs p = X at *
      have hr0 : X.ran.length ≤ 200 := by omega
      have htm := hide (played_time gs p)
      rw [hXe] at htm
      clear hXe
      obtain ⟨A7, c7, rfl, hrd⟩ := own_reads hown
      have hRD := hide hrd
      obtain ⟨p1, p2, p3, p4, p5, p6, p7, p8⟩ := h
      have e0 := hbx.cell (i := 0) rfl
      have e1 := hbx.cell (i := 1) rfl
      obtain ⟨wo, rfl⟩ : ∃ wo : World, wo = wr := ⟨_, rfl⟩
      clear hrd hln hown hA hg8
      go_wp2
      go_loopw [10] (fun i w' => ∃ q m : Nat, q ≤ X.ran.length ∧ i = .int .i64 q ∧ w' = wo.drewN m) (fun i _ => X.ran.length - (intOf i).toNat)
      case atStart => exact ⟨0, 0, Nat.zero_le _, rfl, rfl⟩
      case round =>
        obtain ⟨q, m, hq, rfl, rfl⟩ := hrel
        rcases Nat.lt_or_ge q X.ran.length with hlt | hge
        · obtain ⟨t0, ht0⟩ : ∃ x, X.ran[q]? = some x := ⟨_, List.getElem?_eq_getElem hlt⟩
          obtain ⟨g7, rfl, hcq⟩ := hRD.out q t0 ht0
          have htt := htm.out t0 (List.mem_of_getElem? ht0)
          have HT0 := hide ht0
          clear ht0
          go_wp2
          go_loopw [11] (fun i w' => ∃ k m : Nat, q ≤ k ∧ k ≤ X.ran.length ∧ i = .int .i64 k ∧ w' = wo.drewN m ∧ Hid (∀ j, q ≤ j → j < k → ∀ t, X.ran[j]? = some t → t < t0 + p.P)) (fun i _ => X.ran.length - (intOf i).toNat)
          case atStart => exact ⟨q, m, Nat.le_refl _, by omega, rfl, rfl, hide (fun j h1 h2 => by omega)⟩
          case round =>
            obtain ⟨k, m2, hqk, hkn, rfl, rfl, hall⟩ := hrel
            rcases Nat.lt_or_ge k X.ran.length with hkl | hkg
            · obtain ⟨tk, htk⟩ : ∃ x, X.ran[k]? = some x := ⟨_, List.getElem?_eq_getElem hkl⟩
              obtain ⟨g7', hge7, hck⟩ := hRD.out k tk htk
              injection hge7 with hge7
              injection hge7 with hge7
              subst hge7
              have htk2 := htm.out tk (List.mem_of_getElem? htk)
              have HTK := hide htk
              clear htk
              by_cases hin : tk < t0 + p.P
              · have hd1 : decide ((k : Int) < X.ran.length) = true := by simp; omega
                have hd2 : decide (tk < t0 + p.P) = true := by simp; omega
                go_wp2
                refine wp_region_text0 18 [] [] [] (fun _ => True) (by kernel_rfl) (by kernel_rfl) trivial ?_
                repeat (first | ((refine wpText_h rfl rfl ?_; apply Exists.intro; refine ⟨?_, ?_⟩; next => (go_simp; (try (go_bits; go_simp)); (first | done | with_reducible rfl | (rw [if_neg (by omega)]; (try (go_bits; go_simp)); (first | done | with_reducible rfl)) | (rw [if_pos (by omega)]; (try (go_bits; go_simp)); (first | done | with_reducible rfl))))); (try simp only [Act.put, List.setIfInBounds_toArray, List.set_cons_zero, List.set_cons_succ])) | ((refine wpText_p rfl rfl ?_; apply Exists.intro; refine ⟨?_, ?_⟩; next => (intro w'; go_simp; (try (go_bits; go_simp)); (first | done | with_reducible rfl | (rw [if_neg (by omega)]; (try (go_bits; go_simp)); (first | done | with_reducible rfl)) | (rw [if_pos (by omega)]; (try (go_bits; go_simp)); (first | done | with_reducible rfl))))); (try simp only [Act.put, List.setIfInBounds_toArray, List.set_cons_zero, List.set_cons_succ])) | ((refine wpText_y rfl rfl ?_; apply Exists.intro; refine ⟨?_, ?_⟩; next => (intro w' hS; (first | obtain ⟨_, rfl⟩ := hS | skip); go_simp; (try (go_bits; go_simp)); (first | done | with_reducible rfl | (rw [if_neg (by omega)]; (try (go_bits; go_simp)); (first | done | with_reducible rfl)) | (rw [if_pos (by omega)]; (try (go_bits; go_simp)); (first | done | with_reducible rfl))))); (try simp only [Act.put, List.setIfInBounds_toArray, List.set_cons_zero, List.set_cons_succ])) | (refine wpText_skip (by first | exact .inl rfl | exact .inr (.inl rfl) | exact .inr (.inr rfl)) rfl ?_; (try simp only [Act.put, List.setIfInBounds_toArray, List.set_cons_zero, List.set_cons_succ])))
                refine wpText_nil ?_
                go_wp2
                go_roundw
                case rel =>
                  have hnew : Hid (∀ j, q ≤ j → j < k + 1 → ∀ t, X.ran[j]? = some t → t < t0 + p.P) := hide (fun j h1 h2 t hj => by
                    rcases Nat.lt_or_ge j k with hjk | hjk
                    · exact hall.out j h1 hjk t hj
                    · obtain rfl : j = k := by omega
                      have := HTK.out.symm.trans hj
                      injection this with this
                      omega)
                  exact ⟨k + 1, _, by omega, by omega, by go_num, rfl, hnew⟩
                case measure => simp [intOf]; omega
              · have hd1 : decide ((k : Int) < X.ran.length) = true := by simp; omega
                have hd2 : decide (tk < t0 + p.P) = false := by simp; omega
                have hkq : q < k := by
                  rcases Nat.lt_or_ge q k with hc | hc
                  · exact hc
                  · exfalso
                    obtain rfl : q = k := by omega
                    have := HT0.out.symm.trans HTK.out
                    injection this with this
                    omega
                have hB := hbd.out q k hkq (by omega) t0 HT0.out hall.out
                go_wp2
                refine wp_region_text0 18 [] [] [] (fun _ => True) (by kernel_rfl) (by kernel_rfl) trivial ?_
                repeat (first | ((refine wpText_h rfl rfl ?_; apply Exists.intro; refine ⟨?_, ?_⟩; next => (go_simp; (try (go_bits; go_simp)); (first | done | with_reducible rfl | (rw [if_neg (by omega)]; (try (go_bits; go_simp)); (first | done | with_reducible rfl)) | (rw [if_pos (by omega)]; (try (go_bits; go_simp)); (first | done | with_reducible rfl))))); (try simp only [Act.put, List.setIfInBounds_toArray, List.set_cons_zero, List.set_cons_succ])) | ((refine wpText_p rfl rfl ?_; apply Exists.intro; refine ⟨?_, ?_⟩; next => (intro w'; go_simp; (try (go_bits; go_simp)); (first | done | with_reducible rfl | (rw [if_neg (by omega)]; (try (go_bits; go_simp)); (first | done | with_reducible rfl)) | (rw [if_pos (by omega)]; (try (go_bits; go_simp)); (first | done | with_reducible rfl))))); (try simp only [Act.put, List.setIfInBounds_toArray, List.set_cons_zero, List.set_cons_succ])) | ((refine wpText_y rfl rfl ?_; apply Exists.intro; refine ⟨?_, ?_⟩; next => (intro w' hS; (first | obtain ⟨_, rfl⟩ := hS | skip); go_simp; (try (go_bits; go_simp)); (first | done | with_reducible rfl | (rw [if_neg (by omega)]; (try (go_bits; go_simp)); (first | done | with_reducible rfl)) | (rw [if_pos (by omega)]; (try (go_bits; go_simp)); (first | done | with_reducible rfl))))); (try simp only [Act.put, List.setIfInBounds_toArray, List.set_cons_zero, List.set_cons_succ])) | (refine wpText_skip (by first | exact .inl rfl | exact .inr (.inl rfl) | exact .inr (.inr rfl)) rfl ?_; (try simp only [Act.put, List.setIfInBounds_toArray, List.set_cons_zero, List.set_cons_succ])))
                refine wpText_nil ?_
                go_wp2
                go_roundw
                case rel => exact ⟨q + 1, _, by omega, by go_num, rfl⟩
                case measure => simp [intOf]; omega
            · obtain rfl : k = X.ran.length := by omega
              have hd1 : decide ((X.ran.length : Int) < X.ran.length) = false := by simp
              have hB := hbd.out q X.ran.length hlt (by omega) t0 HT0.out hall.out
              go_wp2
              refine wp_region_text0 18 [] [] [] (fun _ => True) (by kernel_rfl) (by kernel_rfl) trivial ?_
              repeat (first | ((refine wpText_h rfl rfl ?_; apply Exists.intro; refine ⟨?_, ?_⟩; next => (go_simp; (try (go_bits; go_simp)); (first | done | with_reducible rfl | (rw [if_neg (by omega)]; (try (go_bits; go_simp)); (first | done | with_reducible rfl)) | (rw [if_pos (by omega)]; (try (go_bits; go_simp)); (first | done | with_reducible rfl))))); (try simp only [Act.put, List.setIfInBounds_toArray, List.set_cons_zero, List.set_cons_succ])) | ((refine wpText_p rfl rfl ?_; apply Exists.intro; refine ⟨?_, ?_⟩; next => (intro w'; go_simp; (try (go_bits; go_simp)); (first | done | with_reducible rfl | (rw [if_neg (by omega)]; (try (go_bits; go_simp)); (first | done | with_reducible rfl)) | (rw [if_pos (by omega)]; (try (go_bits; go_simp)); (first | done | with_reducible rfl))))); (try simp only [Act.put, List.setIfInBounds_toArray, List.set_cons_zero, List.set_cons_succ])) | ((refine wpText_y rfl rfl ?_; apply Exists.intro; refine ⟨?_, ?_⟩; next => (intro w' hS; (first | obtain ⟨_, rfl⟩ := hS | skip); go_simp; (try (go_bits; go_simp)); (first | done | with_reducible rfl | (rw [if_neg (by omega)]; (try (go_bits; go_simp)); (first | done | with_reducible rfl)) | (rw [if_pos (by omega)]; (try (go_bits; go_simp)); (first | done | with_reducible rfl))))); (try simp only [Act.put, List.setIfInBounds_toArray, List.set_cons_zero, List.set_cons_succ])) | (refine wpText_skip (by first | exact .inl rfl | exact .inr (.inl rfl) | exact .inr (.inr rfl)) rfl ?_; (try simp only [Act.put, List.setIfInBounds_toArray, List.set_cons_zero, List.set_cons_succ])))
              refine wpText_nil ?_
              go_wp2
              go_roundw
              case rel => exact ⟨q + 1, _, by omega, by go_num, rfl⟩
              case measure => simp [intOf]; omega
        · obtain rfl : q = X.ran.length := by omega
          go_wp2_with fail
          refine (awake_ok _).mono ?_
          rintro e w9 ⟨rfl, ho9⟩
          go_wp2
          go_ret
          exact ⟨rfl, (hor.drewN _).trans ho9⟩

end Go.Proofs.Ytdjkgbkckmjfiaa
