/- DiskKept walked. -/
import Derived.Test.YtabdahojgmbgdaaKeptP
import Derived.Test.YtabdahojgmbgdaaAppN
import Derived.Deep.DeepCutAuto
import Derived.Deep.CutBlock
namespace Go.Proofs.Ytabdahojgmbgdaa
open Go.RowKit

/-- Puts in a row. -/
def PutsIn (w : World) (A : Option Addr) (l : List (Nat × Nat)) : Prop :=
  ∀ (k : Nat) (x : Nat × Nat), l[k]? = some x → ∃ b o, A = some ⟨b, o, none⟩ ∧ w.cell? ⟨b, o + k * 2, none⟩ = some (.int .u8 (x.1 : Int)) ∧ w.cell? ⟨b, o + k * 2 + 1, none⟩ = some (.int .u8 (x.2 : Int))
theorem PutsIn.only {w w' : World} {A : Option Addr} {l : List (Nat × Nat)} (h : PutsIn w A l) (ho : Only [] w w') : PutsIn w' A l := by
  intro k x hx
  obtain ⟨b, o, hA, h1, h2⟩ := h k x hx
  exact ⟨b, o, hA, cell_only h1 ho, cell_only h2 ho⟩

theorem foot_ge {base : Nat} {w : World} {p : DP} {D : Dk} (h : DkAt base w p D) (hd : base ≤ p.d) : ∀ k ∈ p.foot, base ≤ k := by
  intro k hk
  simp only [DP.foot, List.mem_cons, List.mem_append, mem_own] at hk
  rcases hk with rfl | hk | hk | hk
  · exact hd
  · exact (off_ge h.br k hk).1
  · exact (off_ge h.cr k hk).1
  · exact (off_ge h.sr k hk).1
theorem foot_ne {base b : Nat} {w : World} {p : DP} {D : Dk} {t : TypeId} {cs : List Value} (h : DkAt base w p D) (hb : Blk w b t cs) (h1 : t ≠ dskT) (h2 : blkT ≠ t) (h3 : wrT ≠ t) (h4 : u8T ≠ t) : b ∉ p.foot := by
  intro hk
  simp only [DP.foot, List.mem_cons, List.mem_append, mem_own] at hk
  rcases hk with rfl | hk | hk | hk
  · exact hb.ne h.me h1 rfl
  · exact off_ne_blk h.br hb h2 hk
  · exact off_ne_blk h.cr hb h3 hk
  · exact off_ne_blk h.sr hb h4 hk

/-- What may be, of the first k blocks. -/
def mayN (now : Nat → Nat) (k : Nat) : Nat → Nat → Bool := fun j g => decide (j < k ∧ g = now j)
theorem mayC_set {m m2 : Nat → Nat → Bool} {b f : Nat} (hf : f < 256) (h : ∀ j g, m2 j g = if j = b ∧ g = f then true else m j g) (i : Nat) : (if i = b * 256 + f then Value.bool true else Value.bool (m (i / 256) (i % 256))) = Value.bool (m2 (i / 256) (i % 256)) := by
  rw [h]
  by_cases e : i = b * 256 + f
  · have e1 : i / 256 = b := by omega
    have e2 : i % 256 = f := by omega
    rw [if_pos e, if_pos ⟨e1, e2⟩]
  · rw [if_neg e, if_neg]
    rintro ⟨e1, e2⟩
    omega
theorem mayN_succ (now : Nat → Nat) (k : Nat) (j g : Nat) : mayN now (k + 1) j g = if j = k ∧ g = now k then true else mayN now k j g := by
  unfold mayN
  by_cases e : j = k
  · subst e
    by_cases e2 : g = now j <;> simp [e2]
  · simp only [e, false_and, if_false]
    congr 1
    exact propext ⟨fun h => ⟨by omega, h.2⟩, fun h => ⟨by omega, h.2⟩⟩
theorem K2.start {E : Dk} {now : Nat → Nat} (h1 : E.off = false) (h2 : E.left = 0) (h3 : E.bs = nowBs now) (h4 : E.cache = []) (h8 : ∀ j, now j < 256) : K2 E (mayN now 16) 0 :=
  ⟨h1, h2, by rw [h3]; simp [nowBs], by rw [h4]; rfl, fun j hj => by rw [h3, nowBs_get now hj]; exact half_uni (by simp [mayN, hj]) (h8 j), fun x hx => by rw [h4] at hx; cases hx⟩

def nowC (now : Nat → Nat) (j : Nat) : Value := .int .u8 (now j : Int)
def mayC (m : Nat → Nat → Bool) (j : Nat) : Value := .bool (m (j / 256) (j % 256))
theorem build_act (f : Int) : ∀ w : World, (Instr.build actT #[(3, .int .u8 f)]).run Try.prog w = .ok (.agg #[.int .u8 0, I64 0, I64 0, .int .u8 f, .slice none 0 0, .slice none 0 0]) w := fun _ => by kernel_rfl
theorem zn_list : zn.toList = (List.range 16).map (nowC (fun _ => 0)) := by rfl
theorem zm_list' (n : Nat) : (List.replicate n (Value.bool false)) = (List.range n).map (mayC (fun _ _ => false)) := by
  apply List.ext_getElem?
  intro i
  by_cases h : i < n
  · simp [h, mayC]
  · rw [List.getElem?_eq_none (by simpa using h), List.getElem?_eq_none (by simpa using h)]
theorem zm_list : zm.toList = (List.range 4096).map (mayC (fun _ _ => false)) := zm_list' 4096

/-- The disk, and the two tables. -/
structure KBox (w : World) (pd bm bn : Nat) (p : DP) (D : Dk) (m : Nat → Nat → Bool) (now : Nat → Nat) (wr : World) : Prop where
  dk : DkAt w.heap.size wr p D
  d : p.d = pd
  may : FBlk wr bm mayT 4096 (mayC m)
  nw : FBlk wr bn nowT 16 (nowC now)
  only : Only [] w wr
/-- While the law writes ahead of the flush. -/
def KI1 (w : World) (pd bm bn k : Nat) (wr : World) : Prop := ∃ p D now, K1 D now k ∧ KBox w pd bm bn p D (fun _ _ => false) now wr

/-- While the law writes behind the flush. -/
def KI2 (w : World) (pd bm bn : Nat) (now : Nat → Nat) (k : Nat) (wr : World) : Prop := ∃ p D m, K2 D m k ∧ KBox w pd bm bn p D m now wr
theorem KBox.keep {w wr w' : World} {pd bm bn : Nat} {p : DP} {D : Dk} {m : Nat → Nat → Bool} {now : Nat → Nat} (h : KBox w pd bm bn p D m now wr) (ho : Only [] wr w') : KBox w pd bm bn p D m now w' :=
  ⟨h.dk.keep ho, h.d, h.may.only ho (by simp), h.nw.only ho (by simp), h.only.trans ho⟩
/-- A call of the disk. -/
theorem KBox.call {w wr w' : World} {pd bm bn : Nat} {p p' : DP} {D E : Dk} {m : Nat → Nat → Bool} {now : Nat → Nat} (h : KBox w pd bm bn p D m now wr) (hpd : w.heap.size ≤ pd) (hd : p'.d = p.d) (hE : DkAt w.heap.size w' p' E) {S : List Nat} (ho : Only S wr w') (hS : ∀ k ∈ S, k ∈ p.foot) : KBox w pd bm bn p' E m now w' := by
  have ho2 := ho.mono (S' := p.foot) (fun k hk _ => hS k hk)
  exact ⟨hE, hd.trans h.d, h.may.only ho2 (foot_ne h.dk h.may (by decide) (by decide) (by decide) (by decide)), h.nw.only ho2 (foot_ne h.dk h.nw (by decide) (by decide) (by decide) (by decide)), ((h.only.mono (by simp)).trans ho2).fresh (foot_ge h.dk (by rw [h.d]; exact hpd))⟩
theorem KBox.write {w wr : World} {pd bm bn b : Nat} {p : DP} {D : Dk} {m : Nat → Nat → Bool} {now : Nat → Nat} {x : List Nat} (h : KBox w pd bm bn p D m now wr) (hpd : w.heap.size ≤ pd) (hx : x.length = 64) (ho : D.off = false) (hl : D.left = 0) (hn : D.bs.length = 16) (hb : b < 16) (hc : D.cache.length < 4096) :
    Calls Try.prog 15 #[.pointer (some ⟨pd, 0, none⟩), I64 (b : Nat), .agg (bcells x).toArray] wr fun e w' => e = .returned (I64 0) ∧ (∃ p', KBox w pd bm bn p' (D.put b x) m now w') ∧ ∀ b t cs, Blk wr b t cs → t ≠ dskT → blkT ≠ t → wrT ≠ t → u8T ≠ t → Blk w' b t cs := by
  have hw := write_plain ho hl hn hb hc x
  rw [← h.d]
  refine (write_all w.heap.size wr p D (b : Nat) x h.dk h.only.size hx).mono ?_
  rintro e w' ⟨he, ⟨p', hd, -, hE, -⟩, hS⟩
  rw [hw] at he hE
  exact ⟨he, ⟨p', by rw [h.d]; exact h.call hpd hd hE hS (fun k hk => hk)⟩, fun b t cs hb h1 h2 h3 h4 => hS.blk hb (foot_ne h.dk hb h1 h2 h3 h4)⟩

theorem KBox.rd {w wr : World} {pd bm bn : Nat} {p : DP} {D : Dk} {m : Nat → Nat → Bool} {now : Nat → Nat} (h : KBox w pd bm bn p D m now wr) (b : Int) : Calls Try.prog 19 #[.pointer (some ⟨pd, 0, none⟩), I64 b] wr (ReadS D b wr) := by
  rw [← h.d]
  exact read_all w.heap.size wr p D b h.dk
theorem code_dark {D : Dk} (h : D.off = true) (b : Int) : D.code b = 15 := by unfold Dk.code; rw [if_pos h]

set_option maxRecDepth 20000 in
set_option maxHeartbeats 1000000 in
theorem kept_big (nb nh ns cb ch cs : Nat) (Ab Ah As : Option Addr) (w : World) (h : 40 < nb ∨ 40 < nh ∨ 100 < ns) :
    Calls Try.prog 4 #[.slice Ab nb cb, .slice Ah nh ch, .slice As ns cs] w fun e w' => e = .returned (.bool true) ∧ Only [] w w' := by
  have haw := hide (awake_ok w)
  by_cases h1 : (40 : Int) < (nb : Int)
  · go_enter Try.func4, Try.ntmps4
    go_wp2_with (go_at_call 9; refine haw.out.mono ?_; rintro e w1 ⟨rfl, ho⟩; have HO := hide ho; clear ho)
    go_ret
    exact ⟨rfl, HO.out⟩
  · by_cases h2 : (40 : Int) < (nh : Int)
    · go_enter Try.func4, Try.ntmps4
      go_wp2_with (go_at_call 9; refine haw.out.mono ?_; rintro e w1 ⟨rfl, ho⟩; have HO := hide ho; clear ho)
      go_ret
      exact ⟨rfl, HO.out⟩
    · have h3 : (100 : Int) < (ns : Int) := by omega
      go_enter Try.func4, Try.ntmps4
      go_wp2_with (go_at_call 9; refine haw.out.mono ?_; rintro e w1 ⟨rfl, ho⟩; have HO := hide ho; clear ho)
      go_ret
      exact ⟨rfl, HO.out⟩

theorem u8_inf : (Try.prog.info? u8T).map (fun i => (i.zero, i.size, i.bytes)) = some (some (.int .u8 0), 1, 1) := by kernel_rfl
/-- What is known of the input. -/
structure KIn (w : World) (Ab Ah As : Option Addr) (nb nh ns cs : Nat) (bf bh : List (Nat × Nat)) (s : List Nat) : Prop where
  lb : bf.length = nb
  lh : bh.length = nh
  ls : s.length = ns
  bb : ∀ x ∈ bf, x.1 < 256 ∧ x.2 < 256
  hb : ∀ x ∈ bh, x.1 < 256 ∧ x.2 < 256
  sb : ∀ x ∈ s, x < 256
  ib : PutsIn w Ab bf
  ih : PutsIn w Ah bh
  is : NumsIn w .u8 As s
  nil : As = none → cs = 0
theorem add_bytes (r g : Nat) : (r : Int) % 16 = ((r % 16 : Nat) : Int) := (Int.natCast_emod r 16).symm

set_option maxRecDepth 20000 in
set_option maxHeartbeats 2000000 in
theorem lawkept (nb nh ns cb ch cs : Nat) (Ab Ah As : Option Addr) (bf bh : List (Nat × Nat)) (s : List Nat) (w : World) (hin : KIn w Ab Ah As nb nh ns cs bf bh s) (h1 : nb ≤ 40) (h2 : nh ≤ 40) (h3 : ns ≤ 100) :
    Calls Try.prog 4 #[.slice Ab nb cb, .slice Ah nh ch, .slice As ns cs] w fun e w' => e = .returned (.bool true) ∧ Only [] w w' := by
  have HIN := hide hin
  clear hin
  have hnew := hide (new_ok w w.heap.size 16 (Nat.le_refl _) (by decide) (by decide))
  have b1 : ¬ (40 : Int) < (nb : Int) := by omega
  have b2 : ¬ (40 : Int) < (nh : Int) := by omega
  have b3 : ¬ (100 : Int) < (ns : Int) := by omega
  go_enter Try.func4, Try.ntmps4
  go_upto_region 8 with (first
    | (go_at_call 14; refine hnew.out.mono ?_; rintro e w1 ⟨p, rfl, hp, hf, hD, ho⟩; have H1 := hide (And.intro hp (And.intro hD ho)); clear hp hf hD ho hnew)
    | (refine wpList_alloc_agg rfl mayT rfl zm zm_info ?_)
    | (refine wpList_alloc_agg rfl nowT rfl zn zn_info ?_))
  simp only [Act.put, List.setIfInBounds_toArray, List.set_cons_zero, List.set_cons_succ, World.size_alloc]
  clear b1 b2 b3
  obtain ⟨pd, hpd⟩ : ∃ pd, pd = p.d := ⟨_, rfl⟩
  obtain ⟨bm, hbm⟩ : ∃ bm, bm = w1.heap.size := ⟨_, rfl⟩
  obtain ⟨W2, hW2⟩ : ∃ W2, W2 = (w1.alloc (.cells zm mayT)).alloc (.cells zn nowT) := ⟨_, rfl⟩
  have hK0 : KI1 w pd bm (bm + 1) 0 W2 := by
    have ho : Only [] w1 W2 := by rw [hW2]; exact ((Only.refl [] w1).alloc _).alloc _
    refine ⟨p, Dk.new 16, fun _ => 0, .start, ⟨H1.out.2.1.keep ho, hpd.symm, ?_, ?_, H1.out.2.2.trans ho⟩⟩
    · rw [hW2, hbm]
      exact Blk.alloc ((Blk.newA rfl).to zm_list) _
    · rw [hW2, hbm]
      exact (Blk.newA (by simp)).to zn_list
  have hpw : w.heap.size ≤ pd := by rw [hpd]; exact H1.out.1
  have hbmw : w.heap.size ≤ bm := by rw [hbm]; exact H1.out.2.2.size
  have HK0 := hide hK0
  rw [← hpd, ← hbm, ← hW2]
  clear hK0 H1 hpd hbm hW2
  go_wp2
  go_loopw [49] (fun i wr => ∃ k : Nat, k ≤ nb ∧ i = I64 (k : Nat) ∧ Hid (KI1 w pd bm (bm + 1) k wr)) (fun i _ => nb - (intOf i).toNat)
  case atStart => exact ⟨0, Nat.zero_le _, rfl, HK0⟩
  case round =>
    obtain ⟨k, hk, rfl, HI⟩ := hrel
    clear HK0
    rcases Nat.lt_or_ge k nb with hlt | hge
    · obtain ⟨p1, D, now, hK, hB⟩ := HI.out
      obtain ⟨⟨xb, xf⟩, hx⟩ : ∃ x, bf[k]? = some x := ⟨_, List.getElem?_eq_getElem (by rw [HIN.out.lb]; exact hlt)⟩
      obtain ⟨g, o, rfl, x0, x1⟩ := (HIN.out.ib.only hB.only) k _ hx
      have hx8 := HIN.out.bb _ (List.mem_of_getElem? hx)
      have hk0 : ((k : Nat) : Int) < (nb : Int) := by omega
      have HB := hide hB
      have HK := hide hK
      simp only at x0 x1 hx8
      obtain ⟨hx8a, hx8b⟩ := hx8
      clear hB hK hx HI
      go_upto_region 11 with (refine wpList_store_cells rfl putT (.tmp 12) (.tmp 52) rfl wr.heap.size 0 rfl [.int .u8 (xb : Int), .int .u8 (xf : Int)] rfl putT [.int .u8 0, .int .u8 0] (Blk.newA rfl) (by exact Nat.le_refl _) (by kernel_rfl) (by simp [Value.oneCell']) ?_; intro w2 hw2)
      simp only [Act.put]
      have hox : Only [] wr w2 := ((Only.refl [] wr).alloc _).trans' hw2.2.1 (by intro i hi hlt; simp at hi; omega)
      have hbx : Blk w2 wr.heap.size putT [.int .u8 (xb : Int), .int .u8 (xf : Int)] := hw2.1.to (by simp)
      have y0 := hbx.cell (i := 0) rfl
      have y1 := hbx.cell (i := 1) rfl
      have ly := hbx.lt
      have HB2 := hide (HB.out.keep hox)
      have HX := hide hbx
      obtain ⟨r, hr⟩ : ∃ r, r = xb % 16 := ⟨_, rfl⟩
      have h5 : (xb : Int) % 16 = (r : Int) := by rw [hr]; exact (Int.natCast_emod xb 16).symm
      have hr16 : r < 16 := by omega
      have hba := build_act (xf : Int)
      have hbl := hide (block_ok 0 0 0 xf 0 0 none [] (.slice none 0 0) ⟨_, _, _, rfl⟩ w2.drew rfl (by decide) (fun k x hx => by simp at hx))
      rw [blkOf_nil] at hbl
      clear hw2 hox hbx hr x0 x1 HB
      refine wp_region_text 9 [8] [0, 1, 3, 4] [2] (fun W => W.cell? ⟨wr.heap.size, 0, none⟩ = some (.int .u8 (xb : Int))) (by kernel_rfl) (by kernel_rfl) y0 ?_
      simp only [List.take_succ_cons, List.take_zero, List.drop_succ_cons, List.drop_zero]
      repeat (first | ((refine wpText_h rfl rfl ?_; apply Exists.intro; refine ⟨?_, ?_⟩; next => (go_simp; (try (go_bits; go_simp)); (first | done | with_reducible rfl | (rw [if_neg (by omega)]; (try (go_bits; go_simp)); (first | done | with_reducible rfl)) | (rw [if_pos (by omega)]; (try (go_bits; go_simp)); (first | done | with_reducible rfl))))); (try simp only [Act.put, List.setIfInBounds_toArray, List.set_cons_zero, List.set_cons_succ])) | ((refine wpText_p rfl rfl ?_; apply Exists.intro; refine ⟨?_, ?_⟩; next => (intro w'; go_simp; (try (go_bits; go_simp)); (first | done | with_reducible rfl | (rw [if_neg (by omega)]; (try (go_bits; go_simp)); (first | done | with_reducible rfl)) | (rw [if_pos (by omega)]; (try (go_bits; go_simp)); (first | done | with_reducible rfl))))); (try simp only [Act.put, List.setIfInBounds_toArray, List.set_cons_zero, List.set_cons_succ])) | ((refine wpText_y rfl rfl ?_; apply Exists.intro; refine ⟨?_, ?_⟩; next => (intro w' hS; (first | obtain ⟨_, rfl⟩ := hS | skip); go_simp; (try (go_bits; go_simp)); (first | done | with_reducible rfl | (rw [if_neg (by omega)]; (try (go_bits; go_simp)); (first | done | with_reducible rfl)) | (rw [if_pos (by omega)]; (try (go_bits; go_simp)); (first | done | with_reducible rfl))))); (try simp only [Act.put, List.setIfInBounds_toArray, List.set_cons_zero, List.set_cons_succ])) | (refine wpText_skip (by first | exact .inl rfl | exact .inr (.inl rfl) | exact .inr (.inr rfl)) rfl ?_; (try simp only [Act.put, List.setIfInBounds_toArray, List.set_cons_zero, List.set_cons_succ])))
      refine wpText_e rfl rfl (fun K hK => ?_)
      go_wp2_with (go_at_call 16; refine hbl.out.mono ?_; rintro e w3 ⟨rfl, ho3⟩; have HO3 := hide ((Only.refl [] w2).drew.trans ho3); clear ho3 hbl)
      refine hK _ _ (cell_only y0 HO3.out) ?_
      clear hK K
      try simp only [Act.put, List.setIfInBounds_toArray, List.set_cons_zero, List.set_cons_succ]
      repeat (first | ((refine wpText_h rfl rfl ?_; apply Exists.intro; refine ⟨?_, ?_⟩; next => (go_simp; (try (go_bits; go_simp)); (first | done | with_reducible rfl | (rw [if_neg (by omega)]; (try (go_bits; go_simp)); (first | done | with_reducible rfl)) | (rw [if_pos (by omega)]; (try (go_bits; go_simp)); (first | done | with_reducible rfl))))); (try simp only [Act.put, List.setIfInBounds_toArray, List.set_cons_zero, List.set_cons_succ])) | ((refine wpText_p rfl rfl ?_; apply Exists.intro; refine ⟨?_, ?_⟩; next => (intro w'; go_simp; (try (go_bits; go_simp)); (first | done | with_reducible rfl | (rw [if_neg (by omega)]; (try (go_bits; go_simp)); (first | done | with_reducible rfl)) | (rw [if_pos (by omega)]; (try (go_bits; go_simp)); (first | done | with_reducible rfl))))); (try simp only [Act.put, List.setIfInBounds_toArray, List.set_cons_zero, List.set_cons_succ])) | ((refine wpText_y rfl rfl ?_; apply Exists.intro; refine ⟨?_, ?_⟩; next => (intro w' hS; (first | obtain ⟨_, rfl⟩ := hS | skip); go_simp; (try (go_bits; go_simp)); (first | done | with_reducible rfl | (rw [if_neg (by omega)]; (try (go_bits; go_simp)); (first | done | with_reducible rfl)) | (rw [if_pos (by omega)]; (try (go_bits; go_simp)); (first | done | with_reducible rfl))))); (try simp only [Act.put, List.setIfInBounds_toArray, List.set_cons_zero, List.set_cons_succ])) | (refine wpText_skip (by first | exact .inl rfl | exact .inr (.inl rfl) | exact .inr (.inr rfl)) rfl ?_; (try simp only [Act.put, List.setIfInBounds_toArray, List.set_cons_zero, List.set_cons_succ])))
      refine wpText_nil ?_
      have hB3 := HB2.out.keep HO3.out
      have hwr := hide (hB3.write hpw (b := r) (x := List.replicate 64 xf) (by simp) HK.out.off HK.out.left HK.out.len hr16 (by rw [HK.out.ck]; omega))
      have hx3 := HO3.out.blk HX.out (by simp)
      have HX3 := hide hx3
      clear hB3 hx3 y0 y1 ly
      go_upto_if 63 with (go_at_call 15; refine hwr.out.mono ?_; rintro e w4 ⟨rfl, ⟨p4, hB4⟩, hfr⟩; have HB4 := hide hB4; have HX4 := hide (hfr _ _ _ HX3.out (by decide) (by decide) (by decide) (by decide)); clear hB4 hwr hfr)
      have z0 := HX4.out.cell (i := 0) rfl
      have z1 := HX4.out.cell (i := 1) rfl
      have lz := HX4.out.lt
      have n0 := HB4.out.nw.cell' (i := r) hr16 rfl
      have nf := HB4.out.nw.frozen r
      have ln := HB4.out.nw.lt
      unfold nowC at n0
      have hr0 : (r : Int) < 16 := by omega
      go_wp2
      refine NoX.normal ?_
      go_wp2
      go_roundw
      case rel =>
        refine ⟨k + 1, by omega, by go_num, hide ⟨p4, _, _, HK.out.step hr16 hx8b, ?_⟩⟩
        have hne : bm + 1 ≠ bm := by omega
        have hB := HB4.out
        have hs := hB.nw.set r (.int .u8 (xf : Int))
        refine ⟨?_, hB.d, hB.may.far (fun e => hne e.symm) _, hs.congr (fun j _ => ?_), hB.only.set (.inr (by simp; omega)) _⟩
        · have hf := foot_ne hB.dk hB.nw (by decide) (by decide) (by decide) (by decide)
          exact hB.dk.only (S := [bm + 1]) ((Only.refl _ _).set (p := ⟨bm + 1, r, none⟩) (.inl (by simp)) _) (fun k hk hm => by simp at hm; subst hm; exact hf hk)
        · show (if j = r then Value.int .u8 (xf : Int) else nowC now j) = nowC (fun j => if j = r then xf else now j) j
          by_cases e : j = r <;> simp [nowC, e]
      case measure => simp [intOf]; omega
    · obtain rfl : k = nb := by omega
      obtain ⟨p1, D, now, hK, hB⟩ := HI.out
      have hfl := hK.flush
      have HFL : Hid (Calls Try.prog 17 #[.pointer (some ⟨pd, 0, none⟩)] wr fun e w' => e = .returned (I64 0) ∧ ∃ p' E, E.off = false ∧ E.left = 0 ∧ E.bs = nowBs now ∧ E.cache = [] ∧ KBox w pd bm (bm + 1) p' E (fun _ _ => false) now w') := hide (by
        rw [← hB.d]
        refine (flush_ok w.heap.size wr p1 D hB.dk).mono ?_
        rintro e w' ⟨rfl, hD, ho⟩
        rw [hfl.1]
        rw [if_neg (by rw [hK.off]; decide)] at hD
        refine ⟨rfl, p1.noC, _, hfl.2.1, hfl.2.2.1, hfl.2.2.2.1, hfl.2.2.2.2, ?_⟩
        rw [hB.d]
        exact hB.call hpw rfl hD ho (fun k hk => by
          rcases List.mem_cons.1 hk with rfl | hk
          · exact p1.foot_d
          · exact p1.foot_b (mem_own.1 hk)))
      have hn8 := hK.n8
      clear HI hK hB hfl hge hk
      go_upto_if 73 with (go_at_call 17; refine HFL.out.mono ?_; clear HFL; rintro e w2 ⟨rfl, p2, E, hE1, hE2, hE3, hE4, hB2⟩; have HE := hide (And.intro hE1 (And.intro hE2 (And.intro hE3 hE4))); have HB2 := hide hB2; clear hE1 hE2 hE3 hE4 hB2)
      obtain ⟨nc, hnc⟩ : ∃ nc, nc = (List.range 16).map (nowC now) := ⟨_, rfl⟩
      have HNC : Hid (∀ j v, nc[j]? = some v → w2.cell? ⟨bm + 1, 0 + j, none⟩ = some v) := hide (fun j v hj => by rw [Nat.zero_add]; rw [hnc] at hj; exact Blk.cell HB2.out.nw hj)
      have HNL : Hid (nc.length = 16) := hide (by rw [hnc]; simp)
      have HIX : Hid (∀ i : Nat, i < 16 → ∀ W, (Instr.index nowT (.agg nc.toArray) (I64 (i : Nat))).run Try.prog W = .ok (.int .u8 (now i : Int)) W) := hide (fun i hi W => run_index_cells nowT u8T 16 Try.underlying45 _ Try.underlying5 rfl (by kernel_rfl) nc i _ hi (by rw [hnc]; simp [hi, nowC]) .i64 (wrap64 (by omega) (by omega)) W)
      clear hnc
      go_wp2_with (refine wpList_load_cells rfl nowT (.tmp 10) rfl (bm + 1) 0 rfl nc (d := _) HNC.out Try.underlying45 rfl (by rw [HNL.out]; kernel_rfl) ?_)
      have HM0 : Hid (KBox w pd bm (bm + 1) p2 E (mayN now 0) now w2) := hide (by
        have : (fun _ _ => false) = mayN now 0 := by funext j g; simp [mayN]
        rw [← this]; exact HB2.out)
      obtain ⟨wm, rfl⟩ : ∃ wm, wm = w2 := ⟨_, rfl⟩
      clear HNC HB2
      go_loopw [75] (fun i w3 => ∃ j : Nat, j ≤ 16 ∧ i = I64 (j : Nat) ∧ Hid (KBox w pd bm (bm + 1) p2 E (mayN now j) now w3)) (fun i _ => 16 - (intOf i).toNat)
      case atStart => exact ⟨0, by decide, rfl, HM0⟩
      case round =>
        obtain ⟨j, hj, rfl, HI⟩ := hrel
        clear HM0
        rcases Nat.lt_or_ge j 16 with hlt2 | hge2
        · have hj0 : ((j : Nat) : Int) < 16 := by omega
          have hix := HIX.out j hlt2
          have hn0 := hn8 j
          have c0 := HI.out.may.cell' (i := j * 256 + now j) (by omega) rfl
          have cf := HI.out.may.frozen (j * 256 + now j)
          have lm := HI.out.may.lt
          unfold mayC at c0
          have hn1 : ((now j : Nat) : Int) < 256 := by omega
          go_wp2
          go_roundw
          case rel =>
            refine ⟨j + 1, by omega, by go_num, hide ?_⟩
            have hB := HI.out
            refine ⟨?_, hB.d, (hB.may.set (j * 256 + now j) (.bool true)).congr (fun i _ => ?_), hB.nw.far (by simp) _, hB.only.set (.inr (by simp; omega)) _⟩
            · have hf := foot_ne hB.dk hB.may (by decide) (by decide) (by decide) (by decide)
              exact hB.dk.only (S := [bm]) ((Only.refl _ _).set (p := ⟨bm, j * 256 + now j, none⟩) (.inl (by simp)) _) (fun k hk hm => by simp at hm; subst hm; exact hf hk)
            · exact mayC_set hn0 (mayN_succ now j) i
          case measure => simp [intOf]; omega
        · obtain rfl : j = 16 := by omega
          have HK2 := hide (K2.start HE.out.1 HE.out.2.1 HE.out.2.2.1 HE.out.2.2.2 hn8)
          have HK0 : Hid (KI2 w pd bm (bm + 1) now 0 wr) := hide ⟨p2, E, _, HK2.out, HI.out⟩
          obtain ⟨wn, rfl⟩ : ∃ wn, wn = wr := ⟨_, rfl⟩
          clear HK2 HI HIX HNL hn8 HE
          rw [show ((16 : Nat) : Int) = (16 : Int) from rfl]
          go_wp2
          go_loopw [86] (fun i w3 => ∃ l : Nat, l ≤ nh ∧ i = I64 (l : Nat) ∧ Hid (KI2 w pd bm (bm + 1) now l w3)) (fun i _ => nh - (intOf i).toNat)
          case atStart => exact ⟨0, Nat.zero_le _, rfl, HK0⟩
          case round =>
            obtain ⟨l, hl, rfl, HI⟩ := hrel
            clear HK0
            rcases Nat.lt_or_ge l nh with hlt3 | hge3
            · obtain ⟨p3, D3, m, hK, hB⟩ := HI.out
              obtain ⟨⟨xb, xf⟩, hx⟩ : ∃ x, bh[l]? = some x := ⟨_, List.getElem?_eq_getElem (by rw [HIN.out.lh]; exact hlt3)⟩
              obtain ⟨g, o, rfl, x0, x1⟩ := (HIN.out.ih.only hB.only) l _ hx
              have hx8 := HIN.out.hb _ (List.mem_of_getElem? hx)
              have hl0 : ((l : Nat) : Int) < (nh : Int) := by omega
              have HB := hide hB
              have HK := hide hK
              simp only at x0 x1 hx8
              obtain ⟨hx8a, hx8b⟩ := hx8
              clear hB hK hx HI
              go_upto_region 25 with (refine wpList_store_cells rfl putT (.tmp 16) (.tmp 89) rfl wr.heap.size 0 rfl [.int .u8 (xb : Int), .int .u8 (xf : Int)] rfl putT [.int .u8 0, .int .u8 0] (Blk.newA rfl) (by exact Nat.le_refl _) (by kernel_rfl) (by simp [Value.oneCell']) ?_; intro w2 hw2)
              simp only [Act.put]
              have hox : Only [] wr w2 := ((Only.refl [] wr).alloc _).trans' hw2.2.1 (by intro i hi hlt; simp at hi; omega)
              have hbx : Blk w2 wr.heap.size putT [.int .u8 (xb : Int), .int .u8 (xf : Int)] := hw2.1.to (by simp)
              have y0 := hbx.cell (i := 0) rfl
              have y1 := hbx.cell (i := 1) rfl
              have ly := hbx.lt
              have HB2 := hide (HB.out.keep hox)
              have HX := hide hbx
              obtain ⟨r, hr⟩ : ∃ r, r = xb % 16 := ⟨_, rfl⟩
              have h5 : (xb : Int) % 16 = (r : Int) := by rw [hr]; exact (Int.natCast_emod xb 16).symm
              have hr16 : r < 16 := by omega
              have hba := build_act (xf : Int)
              have hbl := hide (block_ok 0 0 0 xf 0 0 none [] (.slice none 0 0) ⟨_, _, _, rfl⟩ w2.drew rfl (by decide) (fun k x hx => by simp at hx))
              rw [blkOf_nil] at hbl
              clear hw2 hox hbx hr x0 x1 HB
              refine wp_region_text 9 [8] [0, 1, 3, 4] [2] (fun W => W.cell? ⟨wr.heap.size, 0, none⟩ = some (.int .u8 (xb : Int))) (by kernel_rfl) (by kernel_rfl) y0 ?_
              simp only [List.take_succ_cons, List.take_zero, List.drop_succ_cons, List.drop_zero]
              repeat (first | ((refine wpText_h rfl rfl ?_; apply Exists.intro; refine ⟨?_, ?_⟩; next => (go_simp; (try (go_bits; go_simp)); (first | done | with_reducible rfl | (rw [if_neg (by omega)]; (try (go_bits; go_simp)); (first | done | with_reducible rfl)) | (rw [if_pos (by omega)]; (try (go_bits; go_simp)); (first | done | with_reducible rfl))))); (try simp only [Act.put, List.setIfInBounds_toArray, List.set_cons_zero, List.set_cons_succ])) | ((refine wpText_p rfl rfl ?_; apply Exists.intro; refine ⟨?_, ?_⟩; next => (intro w'; go_simp; (try (go_bits; go_simp)); (first | done | with_reducible rfl | (rw [if_neg (by omega)]; (try (go_bits; go_simp)); (first | done | with_reducible rfl)) | (rw [if_pos (by omega)]; (try (go_bits; go_simp)); (first | done | with_reducible rfl))))); (try simp only [Act.put, List.setIfInBounds_toArray, List.set_cons_zero, List.set_cons_succ])) | ((refine wpText_y rfl rfl ?_; apply Exists.intro; refine ⟨?_, ?_⟩; next => (intro w' hS; (first | obtain ⟨_, rfl⟩ := hS | skip); go_simp; (try (go_bits; go_simp)); (first | done | with_reducible rfl | (rw [if_neg (by omega)]; (try (go_bits; go_simp)); (first | done | with_reducible rfl)) | (rw [if_pos (by omega)]; (try (go_bits; go_simp)); (first | done | with_reducible rfl))))); (try simp only [Act.put, List.setIfInBounds_toArray, List.set_cons_zero, List.set_cons_succ])) | (refine wpText_skip (by first | exact .inl rfl | exact .inr (.inl rfl) | exact .inr (.inr rfl)) rfl ?_; (try simp only [Act.put, List.setIfInBounds_toArray, List.set_cons_zero, List.set_cons_succ])))
              refine wpText_e rfl rfl (fun K hK => ?_)
              go_wp2_with (go_at_call 16; refine hbl.out.mono ?_; rintro e w3 ⟨rfl, ho3⟩; have HO3 := hide ((Only.refl [] w2).drew.trans ho3); clear ho3 hbl)
              refine hK _ _ (cell_only y0 HO3.out) ?_
              clear hK K
              try simp only [Act.put, List.setIfInBounds_toArray, List.set_cons_zero, List.set_cons_succ]
              repeat (first | ((refine wpText_h rfl rfl ?_; apply Exists.intro; refine ⟨?_, ?_⟩; next => (go_simp; (try (go_bits; go_simp)); (first | done | with_reducible rfl | (rw [if_neg (by omega)]; (try (go_bits; go_simp)); (first | done | with_reducible rfl)) | (rw [if_pos (by omega)]; (try (go_bits; go_simp)); (first | done | with_reducible rfl))))); (try simp only [Act.put, List.setIfInBounds_toArray, List.set_cons_zero, List.set_cons_succ])) | ((refine wpText_p rfl rfl ?_; apply Exists.intro; refine ⟨?_, ?_⟩; next => (intro w'; go_simp; (try (go_bits; go_simp)); (first | done | with_reducible rfl | (rw [if_neg (by omega)]; (try (go_bits; go_simp)); (first | done | with_reducible rfl)) | (rw [if_pos (by omega)]; (try (go_bits; go_simp)); (first | done | with_reducible rfl))))); (try simp only [Act.put, List.setIfInBounds_toArray, List.set_cons_zero, List.set_cons_succ])) | ((refine wpText_y rfl rfl ?_; apply Exists.intro; refine ⟨?_, ?_⟩; next => (intro w' hS; (first | obtain ⟨_, rfl⟩ := hS | skip); go_simp; (try (go_bits; go_simp)); (first | done | with_reducible rfl | (rw [if_neg (by omega)]; (try (go_bits; go_simp)); (first | done | with_reducible rfl)) | (rw [if_pos (by omega)]; (try (go_bits; go_simp)); (first | done | with_reducible rfl))))); (try simp only [Act.put, List.setIfInBounds_toArray, List.set_cons_zero, List.set_cons_succ])) | (refine wpText_skip (by first | exact .inl rfl | exact .inr (.inl rfl) | exact .inr (.inr rfl)) rfl ?_; (try simp only [Act.put, List.setIfInBounds_toArray, List.set_cons_zero, List.set_cons_succ])))
              refine wpText_nil ?_
              have hB3 := HB2.out.keep HO3.out
              have hwr := hide (hB3.write hpw (b := r) (x := List.replicate 64 xf) (by simp) HK.out.off HK.out.left HK.out.len hr16 (by rw [HK.out.ck]; omega))
              have hx3 := HO3.out.blk HX.out (by simp)
              have HX3 := hide hx3
              clear hB3 hx3 y0 y1 ly
              go_upto_if 100 with (go_at_call 15; refine hwr.out.mono ?_; rintro e w4 ⟨rfl, ⟨p4, hB4⟩, hfr⟩; have HB4 := hide hB4; have HX4 := hide (hfr _ _ _ HX3.out (by decide) (by decide) (by decide) (by decide)); clear hB4 hwr hfr)
              have z0 := HX4.out.cell (i := 0) rfl
              have z1 := HX4.out.cell (i := 1) rfl
              have lz := HX4.out.lt
              have c0 := HB4.out.may.cell' (i := r * 256 + xf) (by omega) rfl
              have cf := HB4.out.may.frozen (r * 256 + xf)
              have lm := HB4.out.may.lt
              unfold mayC at c0
              have hr0 : (r : Int) < 16 := by omega
              have hf0 : ((xf : Nat) : Int) < 256 := by omega
              go_wp2
              refine NoX.normal ?_
              go_wp2
              refine wp_region_text 7 [] [] [] (fun _ => True) (by kernel_rfl) (by kernel_rfl) trivial ?_
              simp only [List.take_succ_cons, List.take_zero, List.drop_succ_cons, List.drop_zero]
              repeat (first | ((refine wpText_h rfl rfl ?_; apply Exists.intro; refine ⟨?_, ?_⟩; next => (go_simp; (try (go_bits; go_simp)); (first | done | with_reducible rfl | (rw [if_neg (by omega)]; (try (go_bits; go_simp)); (first | done | with_reducible rfl)) | (rw [if_pos (by omega)]; (try (go_bits; go_simp)); (first | done | with_reducible rfl))))); (try simp only [Act.put, List.setIfInBounds_toArray, List.set_cons_zero, List.set_cons_succ])) | ((refine wpText_p rfl rfl ?_; apply Exists.intro; refine ⟨?_, ?_⟩; next => (intro w'; go_simp; (try (go_bits; go_simp)); (first | done | with_reducible rfl | (rw [if_neg (by omega)]; (try (go_bits; go_simp)); (first | done | with_reducible rfl)) | (rw [if_pos (by omega)]; (try (go_bits; go_simp)); (first | done | with_reducible rfl))))); (try simp only [Act.put, List.setIfInBounds_toArray, List.set_cons_zero, List.set_cons_succ])) | ((refine wpText_y rfl rfl ?_; apply Exists.intro; refine ⟨?_, ?_⟩; next => (intro w' hS; (first | obtain ⟨_, rfl⟩ := hS | skip); go_simp; (try (go_bits; go_simp)); (first | done | with_reducible rfl | (rw [if_neg (by omega)]; (try (go_bits; go_simp)); (first | done | with_reducible rfl)) | (rw [if_pos (by omega)]; (try (go_bits; go_simp)); (first | done | with_reducible rfl))))); (try simp only [Act.put, List.setIfInBounds_toArray, List.set_cons_zero, List.set_cons_succ])) | (refine wpText_skip (by first | exact .inl rfl | exact .inr (.inl rfl) | exact .inr (.inr rfl)) rfl ?_; (try simp only [Act.put, List.setIfInBounds_toArray, List.set_cons_zero, List.set_cons_succ])))
              refine wpText_nil ?_
              go_wp2
              refine NoX.normal ?_
              go_wp2
              go_roundw
              case rel =>
                refine ⟨l + 1, by omega, by go_num, hide ⟨p4, _, _, HK.out.step hr16 hx8b, ?_⟩⟩
                have hB := HB4.out.keep ((Only.refl [] w4).drew)
                refine ⟨?_, hB.d, (hB.may.set (r * 256 + xf) (.bool true)).congr (fun i _ => ?_), hB.nw.far (by simp) _, hB.only.set (.inr (by simp; omega)) _⟩
                · have hf := foot_ne hB.dk hB.may (by decide) (by decide) (by decide) (by decide)
                  exact hB.dk.only (S := [bm]) ((Only.refl _ _).set (p := ⟨bm, r * 256 + xf, none⟩) (.inl (by simp)) _) (fun k hk hm => by simp at hm; subst hm; exact hf hk)
                · exact mayC_set hx8b (fun j g => rfl) i
              case measure => simp [intOf]; omega
            · obtain rfl : l = nh := by omega
              obtain ⟨p3, D3, m, hK, hB⟩ := HI.out
              have HK := hide hK
              have HB := hide hB
              clear HI hK hB hge3 hl h2
              obtain ⟨i0, hi0, hz0, hs0, hb0⟩ := info_parts u8_inf
              have hoA : Only [] wr (wr.alloc (.cells #[] u8T)) := (Only.refl _ _).alloc _
              have HROW : Hid (offRow (wr.alloc (.cells #[] u8T)) w.heap.size u8T 1 (.slice (some ⟨wr.heap.size, 0, none⟩) 0 0) 0 []) := hide ⟨rfl, .inr ⟨wr.heap.size, 0, 0, [], rfl, HB.out.only.size, Blk.newA rfl, Nat.le_refl _, by simp [maxLen], by simp, rfl⟩⟩
              have HNU : Hid (NumsIn (wr.alloc (.cells #[] u8T)) .u8 As s) := hide (HIN.out.is.only (HB.out.only.trans hoA))
              have HOA := hide hoA
              clear hoA
              go_upto_region 30 with (first
                | (at_builtin
                   refine wpList_append_nums rfl (.tmp 110) (.tmp 111) rfl i0 hi0 hz0 hs0 hb0 w.heap.size (.slice (some ⟨wr.heap.size, 0, none⟩) 0 0) 0 [] rfl HROW.out (HB.out.only.trans HOA.out).size As ns cs s rfl HNU.out HIN.out.ls HIN.out.nil (by omega) ?_
                   intro v5 w5 hr5 ho5 hown5
                   obtain ⟨A5, c5, rfl⟩ := off_shape hr5
                   have ho25 : Only [] wr w5 := HOA.out.trans' ho5 (by intro i hi hlt; simp [Value.ownBlock] at hi; omega)
                   have hB5 := HB.out.keep ho25
                   have hr5' : offRow w5 0 u8T 1 (.slice A5 ns c5) s.length (bcells s) := by
                     have h := off_weak hr5 (Nat.zero_le _)
                     rw [HIN.out.ls]
                     rw [Nat.zero_add] at h
                     exact h
                   have hcc := HK.out.cut (fun x hx => by have := (hB5.dk.ok.hc x hx).1; rw [HK.out.len] at this; exact this) s
                   have HCUT : Hid (Calls Try.prog 18 #[.pointer (some ⟨pd, 0, none⟩), .slice A5 ns c5] w5 fun e w' => e = .returned (.tuple #[]) ∧ ∃ p', KBox w pd bm (bm + 1) p' (D3.cut s) m now w') := hide (by
                     rw [← hB5.d]
                     refine (cut_ok w.heap.size w5 p3 D3 s _ hB5.dk hr5' HIN.out.sb (by rw [HIN.out.ls]; omega)).mono ?_
                     rintro e w' ⟨rfl, hD, ho⟩
                     rw [if_neg (by rw [HK.out.off]; decide)] at hD
                     refine ⟨rfl, p3.dark, ?_⟩
                     rw [hB5.d]
                     exact hB5.call hpw rfl hD ho (fun k hk => by
                       rcases List.mem_cons.1 hk with rfl | hk
                       · exact p3.foot_d
                       · exact p3.foot_b (mem_own.1 hk)))
                   have HCC := hide hcc
                   clear hr5 ho5 hown5 ho25 hB5 hr5' hcc)
                | (go_at_call 18
                   refine HCUT.out.mono ?_
                   clear HCUT
                   rintro e w6 ⟨rfl, p6, hB6⟩
                   have HB6 := hide hB6
                   clear hB6))
              obtain ⟨F, hF⟩ : ∃ F, F = D3.cut s := ⟨_, rfl⟩
              rw [← hF] at HCC HB6
              clear hF HROW HNU HOA HK HB hi0 hz0 hs0 hb0
              have hr0 := HB6.out.rd 0
              unfold ReadS at hr0
              have hne : ¬ (F.code 0 = 0) := by rw [code_dark HCC.out.1]; decide
              rw [code_dark HCC.out.1, show F.read 0 = zb from by unfold Dk.read; rw [if_neg hne]] at hr0
              have hson := isOn_ok w.heap.size w6 p6 F HB6.out.dk
              have HR0 := hide hr0
              have HZL : Hid ((bcells zb).length = 64) := hide (by rw [bcells_len, zb_len])
              have HZL2 : Hid (0 + (bcells zb).length ≤ zA.toList.length) := hide (by rw [HZL.out, zA_len]; decide)
              have HZ1 := hide (bcells_one zb)
              obtain ⟨zz, hzz⟩ : ∃ zz, zz = bcells zb := ⟨_, rfl⟩
              rw [← hzz] at HR0 HZL HZL2 HZ1
              clear hr0 hne hson hzz
              go_upto_region 34 with (first
                | (go_at_call 19
                   refine HR0.out.mono ?_
                   clear HR0
                   rintro e w7 ⟨rfl, ho7⟩
                   have HB7 := hide (HB6.out.keep ho7)
                   clear ho7)
                | (refine wpList_alloc_agg rfl blkT rfl zA zA_info ?_)
                | (refine wpList_store_cells rfl blkT (.tmp 17) (.tmp 117) rfl w7.heap.size 0 rfl zz rfl blkT zA.toList (Blk.newA rfl) HZL2.out (by rw [HZL.out]; kernel_rfl) HZ1.out ?_
                   intro w8 hw8
                   have hox : Only [] w7 w8 := ((Only.refl [] w7).alloc _).trans' hw8.2.1 (by intro i hi hlt; simp at hi; omega)
                   have hB8 := HB7.out.keep hox
                   have hso := isOn_ok w.heap.size w8 p6 F hB8.dk
                   rw [hB8.d, HCC.out.1] at hso
                   have HSO := hide hso
                   have hon := on_ok w.heap.size w8 p6 F hB8.dk
                   have HON : Hid (Calls Try.prog 21 #[.pointer (some ⟨pd, 0, none⟩)] w8 fun e w' => e = .returned (.tuple #[]) ∧ KBox w pd bm (bm + 1) p6 { F with off := false } m now w') := hide (by
                     rw [← hB8.d]
                     refine hon.mono ?_
                     rintro e w' ⟨rfl, hD, ho⟩
                     refine ⟨rfl, ?_⟩
                     rw [hB8.d]
                     exact hB8.call hpw rfl hD ho (fun k hk => by simp at hk; subst hk; exact p6.foot_d))
                   clear hw8 hox hso hon hB8)
                | (go_at_call 20
                   refine HSO.out.mono ?_
                   clear HSO
                   rintro e w9 ⟨rfl, rfl⟩)
                | (go_at_call 21
                   refine HON.out.mono ?_
                   clear HON
                   rintro e w10 ⟨rfl, hB10⟩
                   have HB10 := hide hB10
                   clear hB10))
              obtain ⟨G, hG⟩ : ∃ G : Dk, G = { F with off := false } := ⟨_, rfl⟩
              rw [← hG] at HB10
              have HG : Hid (G.off = false ∧ G.cache = [] ∧ G.bs.length = 16 ∧ ∀ j, j < 16 → Half m j (G.bs.getD j [])) := hide (by rw [hG]; exact ⟨rfl, HCC.out.2.1, HCC.out.2.2.1, HCC.out.2.2.2⟩)
              clear hG HCC HB7 HB6 HZ1 HZL HZL2 HIN h1 h3
              go_wp2
              go_loopw [127] (fun i wr4 => ∃ i4 : Nat, i4 ≤ 16 ∧ i = I64 (i4 : Nat) ∧ Hid (KBox w pd bm (bm + 1) p6 G m now wr4)) (fun i _ => 16 - (intOf i).toNat)
              case atStart => exact ⟨0, by decide, rfl, HB10⟩
              case round =>
                obtain ⟨i4, hi4, rfl, HI⟩ := hrel
                clear HB10
                rcases Nat.lt_or_ge i4 16 with hlt4 | hge4
                · have hrd := HI.out.rd (i4 : Nat)
                  unfold ReadS at hrd
                  have hc0 := code_in HG.out.1 HG.out.2.2.1 hlt4
                  have hlook : G.read ((i4 : Nat) : Int) = G.bs.getD i4 [] := by
                    unfold Dk.read Dk.look
                    rw [if_pos hc0, HG.out.2.1]
                    rfl
                  rw [hc0, hlook] at hrd
                  obtain ⟨a, c, ha, hc, hma, hmc, hxl, hxk⟩ := half_at (HG.out.2.2.2 i4 hlt4)
                  obtain ⟨xx, hxx⟩ : ∃ xx, xx = bcells (G.bs.getD i4 []) := ⟨_, rfl⟩
                  rw [← hxx] at hrd
                  have HRD := hide hrd
                  have HXL : Hid (xx.length = 64) := hide (by rw [hxx, bcells_len]; exact hxl)
                  have HXL2 : Hid (0 + xx.length ≤ zA.toList.length) := hide (by rw [HXL.out, zA_len]; decide)
                  have HX1 : Hid (∀ v ∈ xx, v.oneCell' = true) := hide (by rw [hxx]; exact bcells_one _)
                  have HXK : Hid (∀ k, k < 64 → xx[k]? = some (.int .u8 ((if k < 32 then a else c : Nat) : Int))) := hide (fun k hk => by rw [hxx]; exact bcells_at (hxk k hk))
                  have HMA := hide (And.intro hma hmc)
                  have hi0 : ((i4 : Nat) : Int) < 16 := by omega
                  have ha0 : ((a : Nat) : Int) < 256 := by omega
                  have hc00 : ((c : Nat) : Int) < 256 := by omega
                  clear hrd hc0 hlook hxl hxk hxx hma hmc
                  go_upto_region 38 with (first
                    | (go_at_call 19
                       refine HRD.out.mono ?_
                       clear HRD
                       rintro e w3 ⟨rfl, ho3⟩
                       have HB3 := hide (HI.out.keep ho3)
                       clear ho3)
                    | (refine wpList_alloc_agg rfl blkT rfl zA zA_info ?_)
                    | (refine wpList_store_cells rfl blkT (.tmp 20) (.tmp 134) rfl w3.heap.size 0 rfl xx rfl blkT zA.toList (Blk.newA rfl) HXL2.out (by rw [HXL.out]; kernel_rfl) HX1.out ?_
                       intro w4 hw4
                       have hox : Only [] w3 w4 := ((Only.refl [] w3).alloc _).trans' hw4.2.1 (by intro i hi hlt; simp at hi; omega)
                       have hbx : Blk w4 w3.heap.size blkT xx := hw4.1.to (by rw [List.drop_of_length_le (by rw [HXL.out, zA_len]; decide)]; simp)
                       have HB4 := hide (HB3.out.keep hox)
                       have HBX := hide hbx
                       clear hw4 hox hbx))
                  have c0 := HBX.out.cell (HXK.out 0 (by decide))
                  have c63 := HBX.out.cell (HXK.out 63 (by decide))
                  rw [if_pos (by decide)] at c0
                  rw [if_neg (by decide)] at c63
                  have lx := HBX.out.lt
                  have ma : w4.cell? ⟨bm, i4 * 256 + a, none⟩ = some (.bool true) := by
                    have h := HB4.out.may.cell' (i := i4 * 256 + a) (by omega) rfl
                    unfold mayC at h
                    rw [show (i4 * 256 + a) / 256 = i4 by omega, show (i4 * 256 + a) % 256 = a by omega, HMA.out.1] at h
                    exact h
                  have mc : w4.cell? ⟨bm, i4 * 256 + c, none⟩ = some (.bool true) := by
                    have h := HB4.out.may.cell' (i := i4 * 256 + c) (by omega) rfl
                    unfold mayC at h
                    rw [show (i4 * 256 + c) / 256 = i4 by omega, show (i4 * 256 + c) % 256 = c by omega, HMA.out.2] at h
                    exact h
                  have lm := HB4.out.may.lt
                  go_wp2
                  refine wp_region_text0 20 [] [] [] (fun _ => True) (by kernel_rfl) (by kernel_rfl) trivial ?_
                  repeat (first | ((refine wpText_h rfl rfl ?_; apply Exists.intro; refine ⟨?_, ?_⟩; next => (go_simp; (try (go_bits; go_simp)); (first | done | with_reducible rfl | (rw [if_neg (by omega)]; (try (go_bits; go_simp)); (first | done | with_reducible rfl)) | (rw [if_pos (by omega)]; (try (go_bits; go_simp)); (first | done | with_reducible rfl))))); (try simp only [Act.put, List.setIfInBounds_toArray, List.set_cons_zero, List.set_cons_succ])) | ((refine wpText_p rfl rfl ?_; apply Exists.intro; refine ⟨?_, ?_⟩; next => (intro w'; go_simp; (try (go_bits; go_simp)); (first | done | with_reducible rfl | (rw [if_neg (by omega)]; (try (go_bits; go_simp)); (first | done | with_reducible rfl)) | (rw [if_pos (by omega)]; (try (go_bits; go_simp)); (first | done | with_reducible rfl))))); (try simp only [Act.put, List.setIfInBounds_toArray, List.set_cons_zero, List.set_cons_succ])) | ((refine wpText_y rfl rfl ?_; apply Exists.intro; refine ⟨?_, ?_⟩; next => (intro w' hS; (first | obtain ⟨_, rfl⟩ := hS | skip); go_simp; (try (go_bits; go_simp)); (first | done | with_reducible rfl | (rw [if_neg (by omega)]; (try (go_bits; go_simp)); (first | done | with_reducible rfl)) | (rw [if_pos (by omega)]; (try (go_bits; go_simp)); (first | done | with_reducible rfl))))); (try simp only [Act.put, List.setIfInBounds_toArray, List.set_cons_zero, List.set_cons_succ])) | (refine wpText_skip (by first | exact .inl rfl | exact .inr (.inl rfl) | exact .inr (.inr rfl)) rfl ?_; (try simp only [Act.put, List.setIfInBounds_toArray, List.set_cons_zero, List.set_cons_succ])))
                  refine wpText_nil ?_
                  go_wp2
                  have HO0 := hide ((Only.refl [] w4).drew)
                  clear c0 c63 lx ma mc lm ha0 hc00
                  go_loopw [156] (fun i w5 => ∃ q : Nat, q ≤ 64 ∧ i = I64 (q : Nat) ∧ Hid (Only [] w4 w5)) (fun i _ => 64 - (intOf i).toNat)
                  case atStart => exact ⟨0, by decide, rfl, HO0⟩
                  case round =>
                    obtain ⟨q, hq, rfl, HQ⟩ := hrel
                    clear HO0
                    rcases Nat.lt_or_ge q 64 with hltq | hgeq
                    · have hq0 : ((q : Nat) : Int) < 64 := by omega
                      have hb5 := HQ.out.blk HBX.out (by simp)
                      have cq := hb5.cell (HXK.out q hltq)
                      have lx := hb5.lt
                      by_cases h32 : q < 32
                      · rw [if_pos h32] at cq
                        have cz := hb5.cell (HXK.out 0 (by decide))
                        rw [if_pos (by decide)] at cz
                        have e1 : ((q : Nat) : Int).tdiv 32 = 0 := by rw [Int.tdiv_eq_ediv_of_nonneg (by omega)]; omega
                        have e2 : ((q : Nat) : Int) / 32 = 0 := by omega
                        clear hb5
                        go_wp2
                        refine wp_region_text0 9 [] [] [] (fun _ => True) (by kernel_rfl) (by kernel_rfl) trivial ?_
                        repeat (first | ((refine wpText_h rfl rfl ?_; apply Exists.intro; refine ⟨?_, ?_⟩; next => (go_simp; (try (go_bits; go_simp)); (first | done | with_reducible rfl | (rw [if_neg (by omega)]; (try (go_bits; go_simp)); (first | done | with_reducible rfl)) | (rw [if_pos (by omega)]; (try (go_bits; go_simp)); (first | done | with_reducible rfl))))); (try simp only [Act.put, List.setIfInBounds_toArray, List.set_cons_zero, List.set_cons_succ])) | ((refine wpText_p rfl rfl ?_; apply Exists.intro; refine ⟨?_, ?_⟩; next => (intro w'; go_simp; (try (go_bits; go_simp)); (first | done | with_reducible rfl | (rw [if_neg (by omega)]; (try (go_bits; go_simp)); (first | done | with_reducible rfl)) | (rw [if_pos (by omega)]; (try (go_bits; go_simp)); (first | done | with_reducible rfl))))); (try simp only [Act.put, List.setIfInBounds_toArray, List.set_cons_zero, List.set_cons_succ])) | ((refine wpText_y rfl rfl ?_; apply Exists.intro; refine ⟨?_, ?_⟩; next => (intro w' hS; (first | obtain ⟨_, rfl⟩ := hS | skip); go_simp; (try (go_bits; go_simp)); (first | done | with_reducible rfl | (rw [if_neg (by omega)]; (try (go_bits; go_simp)); (first | done | with_reducible rfl)) | (rw [if_pos (by omega)]; (try (go_bits; go_simp)); (first | done | with_reducible rfl))))); (try simp only [Act.put, List.setIfInBounds_toArray, List.set_cons_zero, List.set_cons_succ])) | (refine wpText_skip (by first | exact .inl rfl | exact .inr (.inl rfl) | exact .inr (.inr rfl)) rfl ?_; (try simp only [Act.put, List.setIfInBounds_toArray, List.set_cons_zero, List.set_cons_succ])))
                        refine wpText_nil ?_
                        go_wp2
                        go_roundw
                        case rel => exact ⟨q + 1, by omega, by go_num, hide HQ.out.drew⟩
                        case measure => simp [intOf]; omega
                      · rw [if_neg h32] at cq
                        have cz := hb5.cell (HXK.out 32 (by decide))
                        rw [if_neg (by decide)] at cz
                        have e1 : ((q : Nat) : Int).tdiv 32 = 1 := by rw [Int.tdiv_eq_ediv_of_nonneg (by omega)]; omega
                        have e2 : ((q : Nat) : Int) / 32 = 1 := by omega
                        clear hb5
                        go_wp2
                        refine wp_region_text0 9 [] [] [] (fun _ => True) (by kernel_rfl) (by kernel_rfl) trivial ?_
                        repeat (first | ((refine wpText_h rfl rfl ?_; apply Exists.intro; refine ⟨?_, ?_⟩; next => (go_simp; (try (go_bits; go_simp)); (first | done | with_reducible rfl | (rw [if_neg (by omega)]; (try (go_bits; go_simp)); (first | done | with_reducible rfl)) | (rw [if_pos (by omega)]; (try (go_bits; go_simp)); (first | done | with_reducible rfl))))); (try simp only [Act.put, List.setIfInBounds_toArray, List.set_cons_zero, List.set_cons_succ])) | ((refine wpText_p rfl rfl ?_; apply Exists.intro; refine ⟨?_, ?_⟩; next => (intro w'; go_simp; (try (go_bits; go_simp)); (first | done | with_reducible rfl | (rw [if_neg (by omega)]; (try (go_bits; go_simp)); (first | done | with_reducible rfl)) | (rw [if_pos (by omega)]; (try (go_bits; go_simp)); (first | done | with_reducible rfl))))); (try simp only [Act.put, List.setIfInBounds_toArray, List.set_cons_zero, List.set_cons_succ])) | ((refine wpText_y rfl rfl ?_; apply Exists.intro; refine ⟨?_, ?_⟩; next => (intro w' hS; (first | obtain ⟨_, rfl⟩ := hS | skip); go_simp; (try (go_bits; go_simp)); (first | done | with_reducible rfl | (rw [if_neg (by omega)]; (try (go_bits; go_simp)); (first | done | with_reducible rfl)) | (rw [if_pos (by omega)]; (try (go_bits; go_simp)); (first | done | with_reducible rfl))))); (try simp only [Act.put, List.setIfInBounds_toArray, List.set_cons_zero, List.set_cons_succ])) | (refine wpText_skip (by first | exact .inl rfl | exact .inr (.inl rfl) | exact .inr (.inr rfl)) rfl ?_; (try simp only [Act.put, List.setIfInBounds_toArray, List.set_cons_zero, List.set_cons_succ])))
                        refine wpText_nil ?_
                        go_wp2
                        go_roundw
                        case rel => exact ⟨q + 1, by omega, by go_num, hide HQ.out.drew⟩
                        case measure => simp [intOf]; omega
                    · obtain rfl : q = 64 := by omega
                      have HB5 := hide (HB4.out.keep HQ.out)
                      try rw [show ((64 : Nat) : Int) = (64 : Int) from rfl]
                      go_wp2
                      go_roundw
                      case rel => exact ⟨i4 + 1, by omega, by go_num, HB5⟩
                      case measure => simp [intOf]; omega
                · obtain rfl : i4 = 16 := by omega
                  have haw := hide (awake_ok wr)
                  go_wp2_with (go_at_call 9; refine haw.out.mono ?_; rintro e w3 ⟨rfl, ho⟩; have HO := hide (HI.out.only.trans ho); clear ho)
                  go_ret
                  exact ⟨rfl, HO.out⟩

end Go.Proofs.Ytabdahojgmbgdaa
