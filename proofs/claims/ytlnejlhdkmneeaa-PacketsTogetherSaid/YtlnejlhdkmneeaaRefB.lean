/- The reference's Fragment where it cuts. -/
import Derived.Test.YtlnejlhdkmneeaaRefA
import Derived.Test.YtlnejlhdkmneeaaWalkH
namespace Go.Proofs.Ytlnejlhdkmneeaa
open Go.RowKit

theorem refpacket_info : (Try.prog.info? 45).map (fun i => (i.zero, i.size, i.bytes)) = some (some (.agg zsP.toArray), 8, 72) := by kernel_rfl

/-- The bytes of fragment j. -/
def fdata (p : Pkt) (len size j : Nat) : List Nat := (p.data.drop (pieceAt len size j).1.1).take (pieceAt len size j).1.2

/-- What holds between two rounds of the reference's loop. -/
def RFragI (p : Pkt) (len size N : Nat) (wb : World) (k : Nat) (v : Value) (W : World) : Prop :=
  ∃ qs : List Pkt, W.ownsRow wb.heap.size 45 8 v k (qs.flatMap Pkt.cells) ∧ qs.length = k ∧
    (∀ j, j < k → ∃ A c, qs[j]? = some (fragF p len size N j A c) ∧ BytesBlk W A (fdata p len size j)) ∧ Only [] wb W

/-- What the reference's Fragment answers where it cuts. -/
def RFragS (p : Pkt) (len size N : Nat) (w : World) (e : Ending) (w' : World) : Prop :=
  ∃ g c qs rest, e = .returned (.tuple #[.slice (some ⟨g, 0, none⟩) N c, I64 0]) ∧ Blk w' g 45 (List.flatMap Pkt.cells qs ++ rest) ∧ qs.length = N ∧ N ≤ c ∧
    (∀ k, k < N → ∃ A c, qs[k]? = some (fragF p len size N k A c) ∧ BytesBlk w' A (fdata p len size k)) ∧ Only [] w w'

set_option maxRecDepth 100000 in
set_option maxHeartbeats 8000000 in
theorem refcut_ok (p : Pkt) (lim size len cap b o N : Nat) (w : World) (hlen : p.data.length = len) (hcp : p.cap = cap) (hPA : p.A = some ⟨b, o, none⟩) (hv : p.valid = 0) (h28 : 28 ≤ lim) (hsz : size = (lim - 20) / 8 * 8) (hgt : lim - 20 < len) (hl : len ≤ 1000000) (hcap : len ≤ cap) (hN : N * size < len + size ∧ len ≤ N * size) (hA : NumsIn w .u8 p.A p.data) (hbw : b < w.heap.size) :
    Calls Try.prog 22 #[p.V, I64 lim] w fun e W' => RFragS p len size N w e W' := by
  have hO : Only [] w (w.alloc (.cells #[.int .u32 p.src, .int .u32 p.dst, I64 p.proto, I64 p.ttl, I64 p.id, I64 p.off, .bool p.more, .slice (some ⟨b, o, none⟩) len cap] 45)) := (Only.refl [] w).alloc _
  have hB : Blk (w.alloc (.cells #[.int .u32 p.src, .int .u32 p.dst, I64 p.proto, I64 p.ttl, I64 p.id, I64 p.off, .bool p.more, .slice (some ⟨b, o, none⟩) len cap] 45)) w.heap.size 45 [.int .u32 p.src, .int .u32 p.dst, I64 p.proto, I64 p.ttl, I64 p.id, I64 p.off, .bool p.more, .slice (some ⟨b, o, none⟩) len cap] := Blk.newA rfl
  have hVal := refValid_ok p (w.alloc (.cells #[.int .u32 p.src, .int .u32 p.dst, I64 p.proto, I64 p.ttl, I64 p.id, I64 p.off, .bool p.more, .slice (some ⟨b, o, none⟩) len cap] 45)) (by unfold maxLen; omega)
  have hpV : p.V = .agg #[.int .u32 p.src, .int .u32 p.dst, I64 p.proto, I64 p.ttl, I64 p.id, I64 p.off, .bool p.more, .slice (some ⟨b, o, none⟩) len cap] := by rw [← hlen, ← hPA, ← hcp]
  rw [hpV] at hVal ⊢
  have HA := hide hA
  have HO := hide (And.intro hO hB)
  have HV := hide hVal
  have HP := hide (show _ ∧ _ ∧ _ from ⟨hlen, hPA, hpV⟩)
  have HN := hide hN
  have HS := hide hsz
  have HVV := hide hv
  clear hA hO hB hVal hlen hPA hpV hN hsz hcp
  have q1 : ¬ ((lim : Int) < 28) := by omega
  have q2 : ¬ (20 + (len : Int) ≤ (lim : Int)) := by omega
  have q3 : ((lim : Int) - 20) / 8 * 8 = (size : Int) := by have := HS.out; omega
  have q4 : ((lim : Int) - 20).tdiv 8 = ((lim : Int) - 20) / 8 := Int.tdiv_eq_ediv_of_nonneg (by omega)
  have s1 : 1 ≤ size := by have := HS.out; omega
  have hoff : 0 ≤ p.off ∧ p.off ≤ 65528 := by
    unfold Pkt.valid at hv
    split at hv
    · omega
    · rename_i h; unfold Pkt.bad at h; omega
  obtain ⟨ho0, ho1⟩ := hoff
  clear hv
  go_enter Try.func22, Try.ntmps22
  go_wp2_with fail
  refine HV.out.mono ?_
  rintro e w1 ⟨rfl, ho⟩
  rw [HVV.out]
  have hq := ho.blk HO.out.2 (by simp)
  have e0 := hq.cell (i := 0) rfl
  have e1 := hq.cell (i := 1) rfl
  have e2 := hq.cell (i := 2) rfl
  have e3 := hq.cell (i := 3) rfl
  have e4 := hq.cell (i := 4) rfl
  have e5 := hq.cell (i := 5) rfl
  have e6 := hq.cell (i := 6) rfl
  have e7 := hq.cell (i := 7) rfl
  have lt0 := hq.lt
  have H1 := hide (And.intro (Only.trans HO.out.1 ho) hq)
  clear hq ho HV HO
  go_wp2
  clear e0 e1 e2 e3 e4 e5 e6 e7 q1 q2 q4
  go_loopw [8, 9] (fun v iv wr => ∃ (k i : Nat) (A0 : Option Addr) (c0 : Nat), v = .slice A0 k c0 ∧ iv = .int .i64 i ∧ i ≤ len + size ∧ Hid (i = k * size ∧ k ≤ N) ∧ Hid (RFragI p len size N w1 k (.slice A0 k c0) wr)) (fun _ iv _ => len + size - (intOf iv).toNat)
  case atStart =>
    refine ⟨0, 0, _, _, rfl, rfl, by omega, hide ⟨by simp, by omega⟩, hide ⟨[], ⟨by simp, .inr ⟨w1.heap.size, 0, #[], rfl, Nat.le_refl _, Blk.newA (c := #[]) rfl, Nat.le_refl _, by simp [maxLen], by simp, by simp⟩⟩, rfl, fun j hj => by omega, (Only.refl [] w1).alloc _⟩⟩
  case round =>
    obtain ⟨k, i, A0, c0, rfl, rfl, hi, HK, HI⟩ := hrel
    have hqw := hide ((show Only [] w1 wr from by obtain ⟨_, _, _, _, h⟩ := HI.out; exact h).blk H1.out.2 (by simp))
    have e7 := hqw.out.cell (i := 7) rfl
    rcases Nat.lt_or_ge i len with hlt | hge
    · have e0 := hqw.out.cell (i := 0) rfl
      have e1 := hqw.out.cell (i := 1) rfl
      have e2 := hqw.out.cell (i := 2) rfl
      have e3 := hqw.out.cell (i := 3) rfl
      have e4 := hqw.out.cell (i := 4) rfl
      have e5 := hqw.out.cell (i := 5) rfl
      have e6 := hqw.out.cell (i := 6) rfl
      have ltw := hqw.out.lt
      have hkN : k < N := by
        rcases Nat.lt_or_ge k N with h | h
        · exact h
        · exfalso
          have h1 := Nat.mul_le_mul_right size h
          have h2 := HN.out.2
          have h3 := HK.out.1
          omega
      obtain ⟨qs, k1, k2, k3, k4⟩ := HI.out
      have HQ := hide (show _ ∧ _ ∧ _ ∧ _ from ⟨k1, k2, k3, k4⟩)
      clear k1 k2 k3 k4
      obtain ⟨en, hen⟩ : ∃ en : Nat, en = min (i + size) len := ⟨_, rfl⟩
      have n1 : i < en := by omega
      have n2 : en ≤ len := by omega
      have hmin : (if (len : Int) < (i : Int) + (size : Int) then (len : Int) else (i : Int) + (size : Int)) = (en : Int) := by split <;> omega
      have HE := hide hen
      clear hen
      have hO2 : Only [] wr ((wr.alloc (.cells #[.int .u32 p.src, .int .u32 p.dst, I64 p.proto, I64 p.ttl, I64 p.id, I64 p.off, .bool p.more, .slice (some ⟨b, o, none⟩) len cap] 45)).alloc (.cells #[] 5)) := ((Only.refl [] wr).alloc _).alloc _
      have hB2 : Blk ((wr.alloc (.cells #[.int .u32 p.src, .int .u32 p.dst, I64 p.proto, I64 p.ttl, I64 p.id, I64 p.off, .bool p.more, .slice (some ⟨b, o, none⟩) len cap] 45)).alloc (.cells #[] 5)) wr.heap.size 45 [.int .u32 p.src, .int .u32 p.dst, I64 p.proto, I64 p.ttl, I64 p.id, I64 p.off, .bool p.more, .slice (some ⟨b, o, none⟩) len cap] := (Blk.newA rfl).alloc _
      have hB3 : Blk ((wr.alloc (.cells #[.int .u32 p.src, .int .u32 p.dst, I64 p.proto, I64 p.ttl, I64 p.id, I64 p.off, .bool p.more, .slice (some ⟨b, o, none⟩) len cap] 45)).alloc (.cells #[] 5)) (wr.heap.size + 1) 5 (bcells []) := Blk.newA (by simp)
      have hNu : NumsIn ((wr.alloc (.cells #[.int .u32 p.src, .int .u32 p.dst, I64 p.proto, I64 p.ttl, I64 p.id, I64 p.off, .bool p.more, .slice (some ⟨b, o, none⟩) len cap] 45)).alloc (.cells #[] 5)) .u8 (some ⟨b, o + i, none⟩) ((p.data.drop i).take (en - i)) := by
        intro j y hy
        have hj : j < en - i := by have := (List.getElem?_eq_some_iff.1 hy).1; simp at this; omega
        rw [List.getElem?_take, if_pos hj, List.getElem?_drop] at hy
        obtain ⟨b', o', hA', hc⟩ := HA.out (i + j) y hy
        rw [HP.out.2.1] at hA'
        injection hA' with hA'
        injection hA' with h1 h2
        subst h1 h2
        refine ⟨b, o + i, rfl, ?_⟩
        have h4 : Only [] w wr := Only.trans H1.out.1 (by obtain ⟨_, _, _, _, h⟩ := HI.out; exact h)
        rw [World.cell?_of_block (w := w) ((Only.trans h4 hO2).block b hbw (by simp)), Nat.add_assoc]
        exact hc
      have hdl : ((p.data.drop i).take (en - i)).length = en - i := by rw [List.length_take, List.length_drop, HP.out.1]; omega
      obtain ⟨A', c', W5, hr, q1, q2, q3', hcc⟩ := append_full ((wr.alloc (.cells #[.int .u32 p.src, .int .u32 p.dst, I64 p.proto, I64 p.ttl, I64 p.id, I64 p.off, .bool p.more, .slice (some ⟨b, o, none⟩) len cap] 45)).alloc (.cells #[] 5)) (wr.heap.size + 1) 0 5 [] hB3 rfl (some ⟨b, o + i, none⟩) ((p.data.drop i).take (en - i)) (en - i) (cap - i) hdl hNu (by omega) (by simp)
      rw [Nat.zero_add] at hr
      have hbb : BytesBlk W5 (some A') ((p.data.drop i).take (en - i)) := by
        obtain ⟨g, rest, h4, h5, _⟩ := q3' (by omega)
        exact .inr ⟨g, rest, by rw [h4], by simpa using h5⟩
      have hb5 := q1.blk hB2 (by simp)
      have hp5 := q1.blk (((hqw.out).alloc _).alloc _) (by simp)
      have HR := hide hr
      have H5 := hide (show _ ∧ _ ∧ _ ∧ _ from ⟨Only.trans hO2 q1, hb5, hbb, hp5⟩)
      clear hO2 hB2 hB3 hNu hdl hr q1 q2 q3' hcc hbb hb5 hp5
      have f0 := H5.out.2.1.cell (i := 0) rfl
      have f1 := H5.out.2.1.cell (i := 1) rfl
      have f2 := H5.out.2.1.cell (i := 2) rfl
      have f3 := H5.out.2.1.cell (i := 3) rfl
      have f4 := H5.out.2.1.cell (i := 4) rfl
      have f5 := H5.out.2.1.cell (i := 5) rfl
      have f6 := H5.out.2.1.cell (i := 6) rfl
      have f7 := H5.out.2.1.cell (i := 7) rfl
      have z7 := H5.out.2.1.frozen 7
      have lt5 := H5.out.2.1.lt
      have p5 := H5.out.2.2.2.cell (i := 5) rfl
      have p6 := H5.out.2.2.2.cell (i := 6) rfl
      have p7 := H5.out.2.2.2.cell (i := 7) rfl
      have ltp := H5.out.2.2.2.lt
      have nwr : w.heap.size ≠ wr.heap.size := by omega
      go_wp2_with (at_builtin; refine wpList_append_eq rfl (.tmp 54) (.tmp 59) 28 rfl _ _ _ rfl rfl HR.out ?_)
      have hb6 : Blk (W5.setCell ⟨wr.heap.size, 7, none⟩ (.slice (some A') (en - i) c')) wr.heap.size 45 [.int .u32 p.src, .int .u32 p.dst, I64 p.proto, I64 p.ttl, I64 p.id, I64 p.off, .bool p.more, .slice (some A') (en - i) c'] := Blk.to (H5.out.2.1.set _ _) (by rfl)
      have hx6 : Blk (W5.setCell ⟨wr.heap.size, 7, none⟩ (.slice (some A') (en - i) c')) w.heap.size 45 [.int .u32 p.src, .int .u32 p.dst, I64 p.proto, I64 p.ttl, I64 p.id, I64 p.off, .bool p.more, .slice (some ⟨b, o, none⟩) len cap] := H5.out.2.2.2.far (by simp; omega) _
      have hO6 : Only [wr.heap.size] W5 (W5.setCell ⟨wr.heap.size, 7, none⟩ (.slice (some A') (en - i) c')) := (Only.refl [wr.heap.size] W5).set (.inl (by simp)) _
      have hbb6 : BytesBlk (W5.setCell ⟨wr.heap.size, 7, none⟩ (.slice (some A') (en - i) c')) (some A') ((p.data.drop i).take (en - i)) := H5.out.2.2.1.onlyT (OnlyT.of_only (Ts := [45]) (base := 0) hO6 (fun j hj _ => ⟨Nat.zero_le _, by simp at hj; subst hj; exact H5.out.2.1.hasT (by simp)⟩)) (by decide)
      clear f0 f1 f2 f3 f4 f5 f6 f7 z7 lt5 p5 p6 p7 ltp e0 e1 e2 e3 e4 e5 e6 e7 HR
      revert hb6 hx6 hO6 hbb6
      generalize W5.setCell ⟨wr.heap.size, 7, none⟩ (.slice (some A') (en - i) c') = W6
      intro hb6 hx6 hO6 hbb6
      have f0 := hb6.cell (i := 0) rfl
      have f1 := hb6.cell (i := 1) rfl
      have f2 := hb6.cell (i := 2) rfl
      have f3 := hb6.cell (i := 3) rfl
      have f4 := hb6.cell (i := 4) rfl
      have f5 := hb6.cell (i := 5) rfl
      have f6 := hb6.cell (i := 6) rfl
      have f7 := hb6.cell (i := 7) rfl
      have z5 := hb6.frozen 5
      have z6 := hb6.frozen 6
      have lt6 := hb6.lt
      have p5 := hx6.cell (i := 5) rfl
      have p6 := hx6.cell (i := 6) rfl
      have p7 := hx6.cell (i := 7) rfl
      have ltp := hx6.lt
      have H6 := hide (show _ ∧ _ ∧ _ ∧ _ from ⟨H5.out.1.trans' hO6 (by intro j hj; simp at hj; omega), hb6, hx6, hbb6⟩)
      clear hb6 hx6 hO6 hbb6 H5 hqw
      have hwp : IntKind.i64.wrap (p.off + (i : Int)) = p.off + (i : Int) := by simp [IntKind.wrap, IntKind.bits, IntKind.signed]; omega
      obtain ⟨mo, hmo⟩ : ∃ mo : Bool, mo = (decide ((en : Int) < (len : Int)) || p.more) := ⟨_, rfl⟩
      have HMO := hide hmo
      clear hmo
      have hfd : fdata p len size k = (p.data.drop i).take (en - i) := by
        unfold fdata pieceAt
        simp only
        rw [← HK.out.1, show min i len = i by omega, show min size (len - i) = en - i by have := HE.out; omega]
      have HFD := hide hfd
      have hmore : (if k + 1 = N then p.more else true) = mo := by
        rw [HMO.out]
        have h1 := HN.out.1
        have h2 := HN.out.2
        have h3 := HK.out.1
        have h4 := HE.out
        by_cases hkn : k + 1 = N
        · rw [if_pos hkn]
          rw [← hkn, Nat.add_mul, Nat.one_mul, ← h3] at h1 h2
          simp [show ¬ en < len by omega]
        · rw [if_neg hkn]
          have h5 := Nat.mul_le_mul_right size (show k + 2 ≤ N by omega)
          rw [Nat.add_mul, ← h3] at h5
          simp [show en < len by omega]
      have HFC : Hid ((fragF p len size N k (some A') c').cells = [.int .u32 p.src, .int .u32 p.dst, I64 p.proto, I64 p.ttl, I64 p.id, I64 (p.off + (i : Int)), .bool mo, .slice (some A') (en - i) c']) := hide (by
        show [_, _, _, _, _, I64 (p.off + ((k * size : Nat) : Int)), .bool (if k + 1 = N then p.more else true), .slice (some A') (fdata p len size k).length c'] = _
        rw [hfd, hmore, ← HK.out.1, show ((p.data.drop i).take (en - i)).length = en - i by rw [List.length_take, List.length_drop, HP.out.1]; omega]
        rfl)
      clear hfd hmore
      by_cases hm : (en : Int) < (len : Int)
      · have hmt : mo = true := by rw [HMO.out]; simp [hm]
        subst hmt
        refine wp_region_text 16 [14] [10, 12] [11] (fun w' => w'.cell? ⟨w.heap.size, 6, none⟩ = some (.bool p.more)) (by kernel_rfl) (by kernel_rfl) p6 ?_
        simp only [List.take_succ_cons, List.take_zero, List.drop_succ_cons, List.drop_zero]
        repeat (first | ((refine wpText_h rfl rfl ?_; apply Exists.intro; refine ⟨?_, ?_⟩; next => (go_simp; (try (go_bits; go_simp)); (first | done | with_reducible rfl | (rw [if_neg (by omega)]; (try (go_bits; go_simp)); (first | done | with_reducible rfl)) | (rw [if_pos (by omega)]; (try (go_bits; go_simp)); (first | done | with_reducible rfl))))); (try simp only [Act.put, List.setIfInBounds_toArray, List.set_cons_zero, List.set_cons_succ])) | ((refine wpText_p rfl rfl ?_; apply Exists.intro; refine ⟨?_, ?_⟩; next => (intro w'; go_simp; (try (go_bits; go_simp)); (first | done | with_reducible rfl | (rw [if_neg (by omega)]; (try (go_bits; go_simp)); (first | done | with_reducible rfl)) | (rw [if_pos (by omega)]; (try (go_bits; go_simp)); (first | done | with_reducible rfl))))); (try simp only [Act.put, List.setIfInBounds_toArray, List.set_cons_zero, List.set_cons_succ])) | ((refine wpText_y rfl rfl ?_; apply Exists.intro; refine ⟨?_, ?_⟩; next => (intro w' hS; (first | obtain ⟨_, rfl⟩ := hS | skip); go_simp; (try (go_bits; go_simp)); (first | done | with_reducible rfl | (rw [if_neg (by omega)]; (try (go_bits; go_simp)); (first | done | with_reducible rfl)) | (rw [if_pos (by omega)]; (try (go_bits; go_simp)); (first | done | with_reducible rfl))))); (try simp only [Act.put, List.setIfInBounds_toArray, List.set_cons_zero, List.set_cons_succ])) | (refine wpText_skip (by first | exact .inl rfl | exact .inr (.inl rfl) | exact .inr (.inr rfl)) rfl ?_; (try simp only [Act.put, List.setIfInBounds_toArray, List.set_cons_zero, List.set_cons_succ])))
        refine wpText_e rfl rfl (fun K hK => ?_)
        go_wp2
        refine hK _ _ (by go_simp) ?_
        clear hK K
        (try simp only [Act.put, List.setIfInBounds_toArray, List.set_cons_zero, List.set_cons_succ])
        repeat (first | ((refine wpText_h rfl rfl ?_; apply Exists.intro; refine ⟨?_, ?_⟩; next => (go_simp; (try (go_bits; go_simp)); (first | done | with_reducible rfl | (rw [if_neg (by omega)]; (try (go_bits; go_simp)); (first | done | with_reducible rfl)) | (rw [if_pos (by omega)]; (try (go_bits; go_simp)); (first | done | with_reducible rfl))))); (try simp only [Act.put, List.setIfInBounds_toArray, List.set_cons_zero, List.set_cons_succ])) | ((refine wpText_p rfl rfl ?_; apply Exists.intro; refine ⟨?_, ?_⟩; next => (intro w'; go_simp; (try (go_bits; go_simp)); (first | done | with_reducible rfl | (rw [if_neg (by omega)]; (try (go_bits; go_simp)); (first | done | with_reducible rfl)) | (rw [if_pos (by omega)]; (try (go_bits; go_simp)); (first | done | with_reducible rfl))))); (try simp only [Act.put, List.setIfInBounds_toArray, List.set_cons_zero, List.set_cons_succ])) | ((refine wpText_y rfl rfl ?_; apply Exists.intro; refine ⟨?_, ?_⟩; next => (intro w' hS; (first | obtain ⟨_, rfl⟩ := hS | skip); go_simp; (try (go_bits; go_simp)); (first | done | with_reducible rfl | (rw [if_neg (by omega)]; (try (go_bits; go_simp)); (first | done | with_reducible rfl)) | (rw [if_pos (by omega)]; (try (go_bits; go_simp)); (first | done | with_reducible rfl))))); (try simp only [Act.put, List.setIfInBounds_toArray, List.set_cons_zero, List.set_cons_succ])) | (refine wpText_skip (by first | exact .inl rfl | exact .inr (.inl rfl) | exact .inr (.inr rfl)) rfl ?_; (try simp only [Act.put, List.setIfInBounds_toArray, List.set_cons_zero, List.set_cons_succ])))
        refine wpText_nil ?_
        go_wp2
        refine NoX.normal ?_
        obtain ⟨i0, hi0, hz0, hz1, hz2⟩ := info_parts refpacket_info
        have hkm : k ≤ 1000000 := by
          have h1 := Nat.mul_le_mul_left k s1
          have h2 := HK.out.1
          omega
        have hset : Only [wr.heap.size] W6 ((W6.setCell ⟨wr.heap.size, 5, none⟩ (.int .i64 (p.off + (i : Int)))).setCell ⟨wr.heap.size, 6, none⟩ (.bool true)) := ((Only.refl [wr.heap.size] W6).set (.inl (by simp)) _).set (.inl (by simp)) _
        have hownd : ((((W6.setCell ⟨wr.heap.size, 5, none⟩ (.int .i64 (p.off + (i : Int)))).setCell ⟨wr.heap.size, 6, none⟩ (.bool true)).alloc (.cells #[.int .u32 p.src, .int .u32 p.dst, I64 p.proto, I64 p.ttl, I64 p.id, I64 (p.off + (i : Int)), .bool true, .slice (some A') (en - i) c'] 45)).drew).ownsRow w1.heap.size 45 8 (.slice A0 k c0) k (qs.flatMap Pkt.cells) :=
          own_nil (own_only (own_nil HQ.out.1 H6.out.1) hset (fun g hg => by have := (HQ.out.1.lt g hg).2; simp; omega)) (((Only.refl [] _).alloc _).drew)
        have hszd : w1.heap.size ≤ ((((W6.setCell ⟨wr.heap.size, 5, none⟩ (.int .i64 (p.off + (i : Int)))).setCell ⟨wr.heap.size, 6, none⟩ (.bool true)).alloc (.cells #[.int .u32 p.src, .int .u32 p.dst, I64 p.proto, I64 p.ttl, I64 p.id, I64 (p.off + (i : Int)), .bool true, .slice (some A') (en - i) c'] 45)).drew).heap.size :=
          Nat.le_trans (Nat.le_trans HQ.out.2.2.2.size (Nat.le_trans H6.out.1.size hset.size)) (((Only.refl [] ((W6.setCell ⟨wr.heap.size, 5, none⟩ (.int .i64 (p.off + (i : Int)))).setCell ⟨wr.heap.size, 6, none⟩ (.bool true))).alloc (.cells #[.int .u32 p.src, .int .u32 p.dst, I64 p.proto, I64 p.ttl, I64 p.id, I64 (p.off + (i : Int)), .bool true, .slice (some A') (en - i) c'] 45)).drew).size
        have HZ := hide (show _ ∧ _ ∧ _ from ⟨hset, hownd, hszd⟩)
        have HZ6 := hide (show Blk ((((W6.setCell ⟨wr.heap.size, 5, none⟩ (.int .i64 (p.off + (i : Int)))).setCell ⟨wr.heap.size, 6, none⟩ (.bool true)).alloc (.cells #[.int .u32 p.src, .int .u32 p.dst, I64 p.proto, I64 p.ttl, I64 p.id, I64 (p.off + (i : Int)), .bool true, .slice (some A') (en - i) c'] 45)).drew) W6.heap.size 45 [.int .u32 p.src, .int .u32 p.dst, I64 p.proto, I64 p.ttl, I64 p.id, I64 (p.off + (i : Int)), .bool true, .slice (some A') (en - i) c'] from Blk.drew (Blk.newA (c := #[.int .u32 p.src, .int .u32 p.dst, I64 p.proto, I64 p.ttl, I64 p.id, I64 (p.off + (i : Int)), .bool true, .slice (some A') (en - i) c']) (by simp [World.setCell])))
        clear hset hownd hszd
        go_wp2_with (at_builtin; refine wpList_append_own _ rfl (.tmp 77) (.tmp 79) 42 rfl w1.heap.size 45 i0 (.agg zsP.toArray) 8 72 Try.underlying42 hi0 hz0 hz1 hz2 rfl (by decide) (.slice A0 k c0) k (qs.flatMap Pkt.cells) rfl HZ.out.2.1 ⟨W6.heap.size, 0, none⟩ 1 1 [.int .u32 p.src, .int .u32 p.dst, I64 p.proto, I64 p.ttl, I64 p.id, I64 (p.off + (i : Int)), .bool true, .slice (some A') (en - i) c'] rfl rfl ?_ ?_ (by unfold maxLen; omega) (by omega) HZ.out.2.2 ?_)
        · intro j u hu
          rw [show (⟨W6.heap.size, 0, none⟩ : Addr).add j = ⟨W6.heap.size, j, none⟩ by unfold Addr.add; split <;> simp_all]
          exact HZ6.out.cell hu
        · simp [Value.oneCell']
        · intro v3 W8 hown3 hgrow _
          obtain ⟨g', cap', rfl⟩ := ownsRow_succ hown3
          have hOT : OnlyT [45] 0 W6 W8 := ((OnlyT.of_only HZ.out.1 (fun j hj _ => ⟨Nat.zero_le _, by simp at hj; subst hj; exact H6.out.2.1.hasT (by simp)⟩)).trans (.of_nil (((Only.refl [] _).alloc _).drew))).trans (OnlyT.grown HZ.out.2.1 (by simp) (Nat.zero_le _) hgrow)
          have hON : Only [] w1 W8 := ((((Only.trans HQ.out.2.2.2 H6.out.1).trans' HZ.out.1 (by intro j hj hj2; have := HQ.out.2.2.2.size; simp at hj; omega)).alloc _).drew).trans' (Only.of_grown (S := (Value.slice A0 k c0).ownBlock.toList) hgrow (fun g hg => by rw [hg]; simp)) (fun j hj hj2 => by
            have hb : (Value.slice A0 k c0).ownBlock = some j := by simpa using hj
            have := (HQ.out.1.lt j hb).1
            omega)
          have HY := hide (show _ ∧ _ ∧ _ from ⟨hOT, hON, hown3⟩)
          clear hOT hON hown3 hgrow f0 f1 f2 f3 f4 f5 f6 f7 z5 z6 lt6 p5 p6 p7 ltp
          go_wp2
          go_roundw
          case rel =>
            refine ⟨k + 1, i + size, some ⟨g', 0, none⟩, cap', rfl, by go_num, by omega, hide ⟨by rw [Nat.add_mul, Nat.one_mul, ← HK.out.1], by omega⟩, hide ⟨qs ++ [fragF p len size N k (some A') c'], ?_, by rw [List.length_append, HQ.out.2.1]; rfl, fun j hj => ?_, HY.out.2.1⟩⟩
            · rw [List.flatMap_append, show List.flatMap Pkt.cells [fragF p len size N k (some A') c'] = [.int .u32 p.src, .int .u32 p.dst, I64 p.proto, I64 p.ttl, I64 p.id, I64 (p.off + (i : Int)), .bool true, .slice (some A') (en - i) c'] by rw [← HFC.out]; simp]
              exact HY.out.2.2
            · rcases Nat.lt_or_ge j k with hjk | hjk
              · obtain ⟨A, c, h1, h2⟩ := HQ.out.2.2.1 j hjk
                refine ⟨A, c, ?_, (h2.onlyT (OnlyT.of_nil (Ts := []) (base := 0) H6.out.1) (by simp)).onlyT HY.out.1 (by decide)⟩
                rw [List.getElem?_append_left (by rw [HQ.out.2.1]; exact hjk)]
                exact h1
              · obtain rfl : j = k := by omega
                refine ⟨some A', c', ?_, ?_⟩
                · rw [List.getElem?_append_right (by rw [HQ.out.2.1]; exact Nat.le_refl _), HQ.out.2.1, Nat.sub_self]
                  rfl
                · rw [HFD.out]
                  exact H6.out.2.2.2.onlyT HY.out.1 (by decide)
          case measure => simp [intOf]; omega
      · have hmt : mo = p.more := by rw [HMO.out]; simp [hm]
        subst hmt
        refine wp_region_text 16 [14] [10, 12] [11] (fun w' => w'.cell? ⟨w.heap.size, 6, none⟩ = some (.bool p.more)) (by kernel_rfl) (by kernel_rfl) p6 ?_
        simp only [List.take_succ_cons, List.take_zero, List.drop_succ_cons, List.drop_zero]
        repeat (first | ((refine wpText_h rfl rfl ?_; apply Exists.intro; refine ⟨?_, ?_⟩; next => (go_simp; (try (go_bits; go_simp)); (first | done | with_reducible rfl | (rw [if_neg (by omega)]; (try (go_bits; go_simp)); (first | done | with_reducible rfl)) | (rw [if_pos (by omega)]; (try (go_bits; go_simp)); (first | done | with_reducible rfl))))); (try simp only [Act.put, List.setIfInBounds_toArray, List.set_cons_zero, List.set_cons_succ])) | ((refine wpText_p rfl rfl ?_; apply Exists.intro; refine ⟨?_, ?_⟩; next => (intro w'; go_simp; (try (go_bits; go_simp)); (first | done | with_reducible rfl | (rw [if_neg (by omega)]; (try (go_bits; go_simp)); (first | done | with_reducible rfl)) | (rw [if_pos (by omega)]; (try (go_bits; go_simp)); (first | done | with_reducible rfl))))); (try simp only [Act.put, List.setIfInBounds_toArray, List.set_cons_zero, List.set_cons_succ])) | ((refine wpText_y rfl rfl ?_; apply Exists.intro; refine ⟨?_, ?_⟩; next => (intro w' hS; (first | obtain ⟨_, rfl⟩ := hS | skip); go_simp; (try (go_bits; go_simp)); (first | done | with_reducible rfl | (rw [if_neg (by omega)]; (try (go_bits; go_simp)); (first | done | with_reducible rfl)) | (rw [if_pos (by omega)]; (try (go_bits; go_simp)); (first | done | with_reducible rfl))))); (try simp only [Act.put, List.setIfInBounds_toArray, List.set_cons_zero, List.set_cons_succ])) | (refine wpText_skip (by first | exact .inl rfl | exact .inr (.inl rfl) | exact .inr (.inr rfl)) rfl ?_; (try simp only [Act.put, List.setIfInBounds_toArray, List.set_cons_zero, List.set_cons_succ])))
        refine wpText_e rfl rfl (fun K hK => ?_)
        go_wp2
        refine hK _ _ (by go_simp) ?_
        clear hK K
        (try simp only [Act.put, List.setIfInBounds_toArray, List.set_cons_zero, List.set_cons_succ])
        repeat (first | ((refine wpText_h rfl rfl ?_; apply Exists.intro; refine ⟨?_, ?_⟩; next => (go_simp; (try (go_bits; go_simp)); (first | done | with_reducible rfl | (rw [if_neg (by omega)]; (try (go_bits; go_simp)); (first | done | with_reducible rfl)) | (rw [if_pos (by omega)]; (try (go_bits; go_simp)); (first | done | with_reducible rfl))))); (try simp only [Act.put, List.setIfInBounds_toArray, List.set_cons_zero, List.set_cons_succ])) | ((refine wpText_p rfl rfl ?_; apply Exists.intro; refine ⟨?_, ?_⟩; next => (intro w'; go_simp; (try (go_bits; go_simp)); (first | done | with_reducible rfl | (rw [if_neg (by omega)]; (try (go_bits; go_simp)); (first | done | with_reducible rfl)) | (rw [if_pos (by omega)]; (try (go_bits; go_simp)); (first | done | with_reducible rfl))))); (try simp only [Act.put, List.setIfInBounds_toArray, List.set_cons_zero, List.set_cons_succ])) | ((refine wpText_y rfl rfl ?_; apply Exists.intro; refine ⟨?_, ?_⟩; next => (intro w' hS; (first | obtain ⟨_, rfl⟩ := hS | skip); go_simp; (try (go_bits; go_simp)); (first | done | with_reducible rfl | (rw [if_neg (by omega)]; (try (go_bits; go_simp)); (first | done | with_reducible rfl)) | (rw [if_pos (by omega)]; (try (go_bits; go_simp)); (first | done | with_reducible rfl))))); (try simp only [Act.put, List.setIfInBounds_toArray, List.set_cons_zero, List.set_cons_succ])) | (refine wpText_skip (by first | exact .inl rfl | exact .inr (.inl rfl) | exact .inr (.inr rfl)) rfl ?_; (try simp only [Act.put, List.setIfInBounds_toArray, List.set_cons_zero, List.set_cons_succ])))
        refine wpText_nil ?_
        go_wp2
        refine NoX.normal ?_
        obtain ⟨i0, hi0, hz0, hz1, hz2⟩ := info_parts refpacket_info
        have hkm : k ≤ 1000000 := by
          have h1 := Nat.mul_le_mul_left k s1
          have h2 := HK.out.1
          omega
        have hset : Only [wr.heap.size] W6 ((W6.setCell ⟨wr.heap.size, 5, none⟩ (.int .i64 (p.off + (i : Int)))).setCell ⟨wr.heap.size, 6, none⟩ (.bool p.more)) := ((Only.refl [wr.heap.size] W6).set (.inl (by simp)) _).set (.inl (by simp)) _
        have hownd : ((((W6.setCell ⟨wr.heap.size, 5, none⟩ (.int .i64 (p.off + (i : Int)))).setCell ⟨wr.heap.size, 6, none⟩ (.bool p.more)).alloc (.cells #[.int .u32 p.src, .int .u32 p.dst, I64 p.proto, I64 p.ttl, I64 p.id, I64 (p.off + (i : Int)), .bool p.more, .slice (some A') (en - i) c'] 45)).drew).ownsRow w1.heap.size 45 8 (.slice A0 k c0) k (qs.flatMap Pkt.cells) :=
          own_nil (own_only (own_nil HQ.out.1 H6.out.1) hset (fun g hg => by have := (HQ.out.1.lt g hg).2; simp; omega)) (((Only.refl [] _).alloc _).drew)
        have hszd : w1.heap.size ≤ ((((W6.setCell ⟨wr.heap.size, 5, none⟩ (.int .i64 (p.off + (i : Int)))).setCell ⟨wr.heap.size, 6, none⟩ (.bool p.more)).alloc (.cells #[.int .u32 p.src, .int .u32 p.dst, I64 p.proto, I64 p.ttl, I64 p.id, I64 (p.off + (i : Int)), .bool p.more, .slice (some A') (en - i) c'] 45)).drew).heap.size :=
          Nat.le_trans (Nat.le_trans HQ.out.2.2.2.size (Nat.le_trans H6.out.1.size hset.size)) (((Only.refl [] ((W6.setCell ⟨wr.heap.size, 5, none⟩ (.int .i64 (p.off + (i : Int)))).setCell ⟨wr.heap.size, 6, none⟩ (.bool p.more))).alloc (.cells #[.int .u32 p.src, .int .u32 p.dst, I64 p.proto, I64 p.ttl, I64 p.id, I64 (p.off + (i : Int)), .bool p.more, .slice (some A') (en - i) c'] 45)).drew).size
        have HZ := hide (show _ ∧ _ ∧ _ from ⟨hset, hownd, hszd⟩)
        have HZ6 := hide (show Blk ((((W6.setCell ⟨wr.heap.size, 5, none⟩ (.int .i64 (p.off + (i : Int)))).setCell ⟨wr.heap.size, 6, none⟩ (.bool p.more)).alloc (.cells #[.int .u32 p.src, .int .u32 p.dst, I64 p.proto, I64 p.ttl, I64 p.id, I64 (p.off + (i : Int)), .bool p.more, .slice (some A') (en - i) c'] 45)).drew) W6.heap.size 45 [.int .u32 p.src, .int .u32 p.dst, I64 p.proto, I64 p.ttl, I64 p.id, I64 (p.off + (i : Int)), .bool p.more, .slice (some A') (en - i) c'] from Blk.drew (Blk.newA (c := #[.int .u32 p.src, .int .u32 p.dst, I64 p.proto, I64 p.ttl, I64 p.id, I64 (p.off + (i : Int)), .bool p.more, .slice (some A') (en - i) c']) (by simp [World.setCell])))
        clear hset hownd hszd
        go_wp2_with (at_builtin; refine wpList_append_own _ rfl (.tmp 77) (.tmp 79) 42 rfl w1.heap.size 45 i0 (.agg zsP.toArray) 8 72 Try.underlying42 hi0 hz0 hz1 hz2 rfl (by decide) (.slice A0 k c0) k (qs.flatMap Pkt.cells) rfl HZ.out.2.1 ⟨W6.heap.size, 0, none⟩ 1 1 [.int .u32 p.src, .int .u32 p.dst, I64 p.proto, I64 p.ttl, I64 p.id, I64 (p.off + (i : Int)), .bool p.more, .slice (some A') (en - i) c'] rfl rfl ?_ ?_ (by unfold maxLen; omega) (by omega) HZ.out.2.2 ?_)
        · intro j u hu
          rw [show (⟨W6.heap.size, 0, none⟩ : Addr).add j = ⟨W6.heap.size, j, none⟩ by unfold Addr.add; split <;> simp_all]
          exact HZ6.out.cell hu
        · simp [Value.oneCell']
        · intro v3 W8 hown3 hgrow _
          obtain ⟨g', cap', rfl⟩ := ownsRow_succ hown3
          have hOT : OnlyT [45] 0 W6 W8 := ((OnlyT.of_only HZ.out.1 (fun j hj _ => ⟨Nat.zero_le _, by simp at hj; subst hj; exact H6.out.2.1.hasT (by simp)⟩)).trans (.of_nil (((Only.refl [] _).alloc _).drew))).trans (OnlyT.grown HZ.out.2.1 (by simp) (Nat.zero_le _) hgrow)
          have hON : Only [] w1 W8 := ((((Only.trans HQ.out.2.2.2 H6.out.1).trans' HZ.out.1 (by intro j hj hj2; have := HQ.out.2.2.2.size; simp at hj; omega)).alloc _).drew).trans' (Only.of_grown (S := (Value.slice A0 k c0).ownBlock.toList) hgrow (fun g hg => by rw [hg]; simp)) (fun j hj hj2 => by
            have hb : (Value.slice A0 k c0).ownBlock = some j := by simpa using hj
            have := (HQ.out.1.lt j hb).1
            omega)
          have HY := hide (show _ ∧ _ ∧ _ from ⟨hOT, hON, hown3⟩)
          clear hOT hON hown3 hgrow f0 f1 f2 f3 f4 f5 f6 f7 z5 z6 lt6 p5 p6 p7 ltp
          go_wp2
          go_roundw
          case rel =>
            refine ⟨k + 1, i + size, some ⟨g', 0, none⟩, cap', rfl, by go_num, by omega, hide ⟨by rw [Nat.add_mul, Nat.one_mul, ← HK.out.1], by omega⟩, hide ⟨qs ++ [fragF p len size N k (some A') c'], ?_, by rw [List.length_append, HQ.out.2.1]; rfl, fun j hj => ?_, HY.out.2.1⟩⟩
            · rw [List.flatMap_append, show List.flatMap Pkt.cells [fragF p len size N k (some A') c'] = [.int .u32 p.src, .int .u32 p.dst, I64 p.proto, I64 p.ttl, I64 p.id, I64 (p.off + (i : Int)), .bool p.more, .slice (some A') (en - i) c'] by rw [← HFC.out]; simp]
              exact HY.out.2.2
            · rcases Nat.lt_or_ge j k with hjk | hjk
              · obtain ⟨A, c, h1, h2⟩ := HQ.out.2.2.1 j hjk
                refine ⟨A, c, ?_, (h2.onlyT (OnlyT.of_nil (Ts := []) (base := 0) H6.out.1) (by simp)).onlyT HY.out.1 (by decide)⟩
                rw [List.getElem?_append_left (by rw [HQ.out.2.1]; exact hjk)]
                exact h1
              · obtain rfl : j = k := by omega
                refine ⟨some A', c', ?_, ?_⟩
                · rw [List.getElem?_append_right (by rw [HQ.out.2.1]; exact Nat.le_refl _), HQ.out.2.1, Nat.sub_self]
                  rfl
                · rw [HFD.out]
                  exact H6.out.2.2.2.onlyT HY.out.1 (by decide)
          case measure => simp [intOf]; omega
    · have hkN : k = N := by
        rcases Nat.lt_or_ge k N with h | h
        · exfalso
          have h1 := Nat.mul_le_mul_right size (show k + 1 ≤ N by omega)
          rw [Nat.add_mul, Nat.one_mul] at h1
          have h2 := HN.out.1
          have h3 := HK.out.1
          omega
        · have := HK.out.2
          omega
      subst hkN
      go_wp2
      go_ret2
      obtain ⟨qs, h1, h2, h3, h4⟩ := HI.out
      have hk0 : 0 < k := by
        rcases Nat.eq_zero_or_pos k with h | h
        · have := HK.out.1
          subst h
          simp at this
          omega
        · exact h
      rcases h1.2 with ⟨_, h5⟩ | ⟨g, cap', cur, h5, -⟩
      · omega
      · injection h5 with h5 _ _
        subst h5
        obtain ⟨-, hc, -, rest, hB, -⟩ := blk_of_row1 h1
        exact ⟨g, c0, qs, rest, rfl, hB, h2, hc, h3, Only.trans H1.out.1 h4⟩

end Go.Proofs.Ytlnejlhdkmneeaa
