/- The law's block. -/
import Derived.Test.YtabdahojgmbgdaaWalkH
import Derived.Test.YtabdahojgmbgdaaBMap
namespace Go.Proofs.Ytabdahojgmbgdaa
open Go.RowKit

abbrev mayT : TypeId := 44
abbrev nowT : TypeId := 45
abbrev putT : TypeId := 47
abbrev actT : TypeId := 52
def zm : Array Value := (List.replicate 4096 (Value.bool false)).toArray
theorem zm_info : (Try.prog.info? mayT).bind (·.zero) = some (.agg zm) := by kernel_rfl
def zn : Array Value := (List.replicate 16 (Value.int .u8 0)).toArray
theorem zn_info : (Try.prog.info? nowT).bind (·.zero) = some (.agg zn) := by kernel_rfl


def fillB (f k : Nat) : List Nat := List.replicate k f ++ List.replicate (64 - k) 0
theorem fillB_set {f k : Nat} (h : k < 64) : (bcells (fillB f k)).set k (.int .u8 (f : Int)) = bcells (fillB f (k + 1)) := by
  unfold fillB bcells
  rw [List.map_append, List.map_append, List.set_append_right _ _ (by simp), show 64 - k = (64 - (k + 1)) + 1 by omega, List.replicate_succ, List.map_cons, List.length_map, List.length_replicate, Nat.sub_self, List.set_cons_zero, List.replicate_succ', List.map_append]
  simp
theorem fillB_at {f k : Nat} (h : k < 64) : (bcells (fillB f k))[k]? = some (.int .u8 0) := by
  refine bcells_at ?_
  unfold fillB
  rw [List.getElem?_append_right (by simp), List.length_replicate, Nat.sub_self, List.getElem?_replicate, if_pos (by omega)]
theorem fillB_end (f : Nat) : fillB f 64 = List.replicate 64 f := by simp [fillB]
/-- The block of a call. -/
def blkOf (f : Nat) (data : List Nat) : List Nat := data.take 64 ++ (List.replicate 64 f).drop (data.take 64).length
theorem blkOf_len (f : Nat) (data : List Nat) : (blkOf f data).length = 64 := by simp [blkOf]; omega
theorem blkOf_nil (f : Nat) : blkOf f [] = List.replicate 64 f := by simp [blkOf]

theorem results_cell_one {fn : Func} {a : Tmp} {t : TypeId} (h : fn.results = #[.cell a t]) (tmps : Array Value) (P : Program) (w : World) {ad : Addr} {v : Value} (ha : tmps.getD a undef = .pointer (some ad)) (hl : (loadVar t ad).run P w = .ok v w) : (results fn tmps).run P w = .ok v w := by
  have ha' : tmps[a]?.getD undef = .pointer (some ad) := by simpa using ha
  simp [results, h, asAddr, ha', hl]

set_option maxRecDepth 20000 in
set_option maxHeartbeats 800000 in
theorem block_ok (x0 : Int) (xb xn : Int) (f nd cd : Nat) (A : Option Addr) (data : List Nat) (sv : Value) (hsv : ∃ A2 n2 c2, sv = .slice A2 n2 c2) (w : World) (hn : data.length = nd) (hm : nd ≤ maxLen) (hA : NumsIn w .u8 A data) :
    Calls Try.prog 16 #[.agg #[.int .u8 x0, I64 xb, I64 xn, .int .u8 (f : Int), .slice A nd cd, sv]] w fun e w' => e = .returned (.agg (bcells (blkOf f data)).toArray) ∧ Only [] w w' := by
  obtain ⟨A2, n2, c2, rfl⟩ := hsv
  obtain ⟨W1, hW1⟩ : ∃ W1, W1 = ((w.alloc (.cells #[.int .u8 x0, I64 xb, I64 xn, .int .u8 (f : Int), .slice A nd cd, .slice A2 n2 c2] actT)).alloc (.cells zA blkT)).alloc (.cells zA blkT) := ⟨_, rfl⟩
  have ho : Only [] w W1 := by rw [hW1]; exact (((Only.refl [] w).alloc _).alloc _).alloc _
  have hb1 : Blk W1 w.heap.size actT [.int .u8 x0, I64 xb, I64 xn, .int .u8 (f : Int), .slice A nd cd, .slice A2 n2 c2] := by rw [hW1]; exact ((Blk.newA (c := #[.int .u8 x0, I64 xb, I64 xn, .int .u8 (f : Int), .slice A nd cd, .slice A2 n2 c2]) rfl).alloc _).alloc _
  have hb2 : Blk W1 (w.heap.size + 1) blkT zA.toList := by rw [hW1]; exact (Blk.newA (by simp)).alloc _
  have hb3 : Blk W1 (w.heap.size + 1 + 1) blkT (bcells (fillB f 0)) := by rw [hW1]; exact (Blk.newA (by simp)).to zA_list
  have HI0 := hide (show Only [] w W1 ∧ Blk W1 w.heap.size actT [.int .u8 x0, I64 xb, I64 xn, .int .u8 (f : Int), .slice A nd cd, .slice A2 n2 c2] ∧ Blk W1 (w.heap.size + 1) blkT zA.toList ∧ Blk W1 (w.heap.size + 1 + 1) blkT (bcells (fillB f 0)) from ⟨ho, hb1, hb2, hb3⟩)
  have HW1 := hide hW1
  have HN := hide hn
  have HA := hide hA
  clear ho hb1 hb2 hb3 hW1 hn hA
  go_enter Try.func16, Try.ntmps16
  go_upto_region 2 with (refine wpList_alloc_agg rfl blkT rfl zA zA_info ?_)
  rw [show ((w.alloc (.cells #[.int .u8 x0, I64 xb, I64 xn, .int .u8 (f : Int), .slice A nd cd, .slice A2 n2 c2] actT)).alloc (.cells zA blkT)).alloc (.cells zA blkT) = W1 from HW1.out.symm]
  clear HW1
  simp only [Act.put, List.setIfInBounds_toArray, List.set_cons_zero, List.set_cons_succ, World.size_alloc]
  go_wp2
  go_loopw [5] (fun i wr => ∃ k : Nat, k ≤ 64 ∧ i = I64 (k : Nat) ∧ Hid (Only [] w wr ∧ Blk wr w.heap.size actT [.int .u8 x0, I64 xb, I64 xn, .int .u8 (f : Int), .slice A nd cd, .slice A2 n2 c2] ∧ Blk wr (w.heap.size + 1) blkT zA.toList ∧ Blk wr (w.heap.size + 1 + 1) blkT (bcells (fillB f k)))) (fun i _ => 64 - (intOf i).toNat)
  case atStart => exact ⟨0, by decide, rfl, HI0⟩
  case round =>
    obtain ⟨k, hk, rfl, HI⟩ := hrel
    clear HI0
    have a3 := HI.out.2.1.cell (i := 3) rfl
    have a4 := HI.out.2.1.cell (i := 4) rfl
    have la := HI.out.2.1.lt
    rcases Nat.lt_or_ge k 64 with hlt | hge
    · have c0 := HI.out.2.2.2.cell (fillB_at hlt)
      have f0 := HI.out.2.2.2.frozen k
      have lb := HI.out.2.2.2.lt
      have hk0 : ((k : Nat) : Int) < 64 := by omega
      go_wp2
      go_roundw
      case rel => exact ⟨k + 1, by omega, by go_num, hide ⟨HI.out.1.set (p := ⟨w.heap.size + 1 + 1, k, none⟩) (.inr (by simp; omega)) _, HI.out.2.1.far (by simp; omega) _, HI.out.2.2.1.far (by simp) _, by rw [← fillB_set hlt]; exact HI.out.2.2.2.set k _⟩⟩
      case measure => simp [intOf]; omega
    · obtain rfl : k = 64 := by omega
      obtain ⟨cs, hcs⟩ : ∃ cs, cs = bcells (data.take 64) := ⟨_, rfl⟩
      obtain ⟨cur, hcur⟩ : ∃ cur, cur = bcells (fillB f 64) := ⟨_, rfl⟩
      have hcl : cs.length = min nd 64 := by rw [hcs, bcells_len, List.length_take, HN.out, Nat.min_comm]
      have HCL := hide hcl
      have HCUL : Hid (cur.length = 64) := hide (by rw [hcur, bcells_len, fillB_end, List.length_replicate])
      have HPOS : Hid (0 < cs.length → ∃ ad, A = some ad ∧ ∀ j v, cs[j]? = some v → wr.drew.cell? (ad.add j) = some v) := hide (fun h0 => by
        obtain ⟨y, hy⟩ : ∃ y, data[0]? = some y := ⟨_, List.getElem?_eq_getElem (by rw [HN.out]; omega)⟩
        obtain ⟨g, o, hAg, -⟩ := HA.out 0 y hy
        refine ⟨_, hAg, fun j v hj => ?_⟩
        rw [hcs] at hj
        have hjl := (List.getElem?_eq_some_iff.1 hj).1
        rw [bcells_len] at hjl
        obtain ⟨z, hz⟩ : ∃ z, (data.take 64)[j]? = some z := ⟨_, List.getElem?_eq_getElem hjl⟩
        rw [bcells_at hz] at hj
        injection hj with hj
        subst hj
        rw [List.getElem?_take] at hz
        split at hz
        · obtain ⟨g', o', hAg', hc⟩ := HA.out j z hz
          rw [hAg] at hAg'
          injection hAg' with e
          injection e with e1 e2
          subst e1 e2
          rw [addr_add]
          exact cell_only hc HI.out.1.drew
        · cases hz)
      have H1 : Hid (∀ v ∈ cs, v.oneCell' = true) := hide (by rw [hcs]; exact bcells_one _)
      have HB3 : Hid (Blk wr.drew (w.heap.size + 1 + 1) blkT cur) := hide (by rw [hcur]; exact HI.out.2.2.2.drew)
      have HBEL : Hid (Below w.heap.size w wr.drew) := hide (HI.out.1.drew.below (by simp) (Nat.le_refl _))
      have HFIT : Hid (0 + cs.length ≤ cur.length) := hide (by rw [HCL.out, HCUL.out]; omega)
      have HSP : Hid (splice cur 0 cs = bcells (blkOf f data)) := hide (by
        rw [hcs, hcur, fillB_end]
        unfold splice blkOf
        rw [List.take_zero, List.nil_append, Nat.zero_add, bcells_len, bcells_app, bcells_drop])
      have HB2 : Hid (Blk wr.drew (w.heap.size + 1) blkT zA.toList) := hide HI.out.2.2.1.drew
      clear hcs hcur hcl
      go_wp2
      refine wp_region_text 3 [] [] [] (fun _ => True) (by kernel_rfl) (by kernel_rfl) trivial ?_
      simp only [List.take_succ_cons, List.take_zero, List.drop_succ_cons, List.drop_zero]
      repeat (first | ((refine wpText_h rfl rfl ?_; apply Exists.intro; refine ⟨?_, ?_⟩; next => (go_simp; (try (go_bits; go_simp)); (first | done | with_reducible rfl | (rw [if_neg (by omega)]; (try (go_bits; go_simp)); (first | done | with_reducible rfl)) | (rw [if_pos (by omega)]; (try (go_bits; go_simp)); (first | done | with_reducible rfl))))); (try simp only [Act.put, List.setIfInBounds_toArray, List.set_cons_zero, List.set_cons_succ])) | ((refine wpText_p rfl rfl ?_; apply Exists.intro; refine ⟨?_, ?_⟩; next => (intro w'; go_simp; (try (go_bits; go_simp)); (first | done | with_reducible rfl | (rw [if_neg (by omega)]; (try (go_bits; go_simp)); (first | done | with_reducible rfl)) | (rw [if_pos (by omega)]; (try (go_bits; go_simp)); (first | done | with_reducible rfl))))); (try simp only [Act.put, List.setIfInBounds_toArray, List.set_cons_zero, List.set_cons_succ])) | ((refine wpText_y rfl rfl ?_; apply Exists.intro; refine ⟨?_, ?_⟩; next => (intro w' hS; (first | obtain ⟨_, rfl⟩ := hS | skip); go_simp; (try (go_bits; go_simp)); (first | done | with_reducible rfl | (rw [if_neg (by omega)]; (try (go_bits; go_simp)); (first | done | with_reducible rfl)) | (rw [if_pos (by omega)]; (try (go_bits; go_simp)); (first | done | with_reducible rfl))))); (try simp only [Act.put, List.setIfInBounds_toArray, List.set_cons_zero, List.set_cons_succ])) | (refine wpText_skip (by first | exact .inl rfl | exact .inr (.inl rfl) | exact .inr (.inr rfl)) rfl ?_; (try simp only [Act.put, List.setIfInBounds_toArray, List.set_cons_zero, List.set_cons_succ])))
      refine wpText_nil ?_
      refine wpList_copy_splice rfl (.tmp 13) (.tmp 15) 39 39 rfl u8T Try.underlying39 (by kernel_rfl) (some ⟨w.heap.size + 1 + 1, 0, none⟩) A 64 64 nd cd rfl rfl (w.heap.size + 1 + 1) 0 cur blkT HB3.out cs HCL.out (fun h0 => ⟨rfl, HPOS.out h0⟩) HFIT.out H1.out (w.heap.size + 1 + 1) wr.drew (Below.refl _ _) (Nat.le_refl _) ?_
      intro w2 hg2 hbel2
      refine NoX.normal ?_
      have hb3 : Blk w2 (w.heap.size + 1 + 1) blkT (bcells (blkOf f data)) := by
        have := hg2.out
        rw [HSP.out] at this
        exact this
      have hb2 : Blk w2 (w.heap.size + 1) blkT zA.toList := (hbel2.block _ (by omega)).trans HB2.out
      have ho2 : Only [] w w2 := Only.of_below (HBEL.out.trans (hbel2.mono (by omega))) []
      have H2 := hide (And.intro hb3 (And.intro hb2 ho2))
      have HLB : Hid ((bcells (blkOf f data)).length = 64) := hide (by rw [bcells_len, blkOf_len])
      have HLB2 : Hid (0 + (bcells (blkOf f data)).length ≤ zA.toList.length) := hide (by rw [HLB.out, zA_len]; decide)
      have HBO := hide (bcells_one (blkOf f data))
      obtain ⟨vs, hvs⟩ : ∃ vs, vs = bcells (blkOf f data) := ⟨_, rfl⟩
      rw [← hvs] at HLB HLB2 HBO H2
      have HB9 : Hid (∀ j v, vs[j]? = some v → w2.cell? ⟨w.heap.size + 1 + 1, 0 + j, none⟩ = some v) := hide (fun j v hj => by rw [Nat.zero_add]; exact H2.out.1.cell hj)
      have HVS := hide hvs
      clear hb3 hb2 ho2 hg2 hbel2 hvs
      go_wp2_with (first
        | (refine wpList_load_cells rfl blkT (.tmp 3) rfl (w.heap.size + 1 + 1) 0 rfl vs (d := _) HB9.out Try.underlying49 rfl (by rw [HLB.out]; kernel_rfl) ?_)
        | (refine wpList_store_cells rfl blkT (.tmp 2) (.tmp 17) rfl (w.heap.size + 1) 0 rfl vs rfl blkT zA.toList H2.out.2.1 HLB2.out (by rw [HLB.out]; kernel_rfl) HBO.out ?_; intro w3 hw3))
      have hz : Blk w3 (w.heap.size + 1) blkT (bcells (blkOf f data)) := hw3.1.to (by rw [List.drop_of_length_le (by rw [zA_len, HLB.out]; decide), HVS.out]; simp)
      refine bodyPost_ret (results_cell_one rfl _ _ _ rfl (load_blk hz (blkOf_len _ _))) rfl ?_
      exact ⟨rfl, H2.out.2.2.trans' hw3.2.1 (by intro i hi hlt; simp at hi; omega)⟩

end Go.Proofs.Ytabdahojgmbgdaa
