/- PacketsRoutes answers true. -/
import Derived.Test.YtlnejlhdkmneeaaRouJ
import Derived.Test.YtlnejlhdkmneeaaWalkI
import Derived.Deep.DeepCutAuto
import Derived.Deep.CutBlock
namespace Go.Proofs.Ytlnejlhdkmneeaa
open Go.RowKit

/-- A change of routes. -/
structure Ch where
  kind : Int
  r : Rt
  ttl : Int
def Ch.cells (c : Ch) : List Value := [I64 c.kind, .int .u32 c.r.addr, I64 c.r.bits, .int .u32 c.r.gw, I64 c.r.ifc, I64 c.r.met, I64 c.ttl]
def Ch.Fit (c : Ch) : Prop := c.r.Fit ∧ -9223372036854775808 ≤ c.ttl
def ChsIn (w : World) (A : Option Addr) (l : List Ch) : Prop :=
  ∀ (k : Nat) (r : Ch), l[k]? = some r → ∃ b o, A = some ⟨b, o, none⟩ ∧ ∀ (j : Nat) (v : Value), r.cells[j]? = some v → w.cell? ⟨b, o + k * 7 + j, none⟩ = some v
theorem ChsIn.only {w w' : World} {A : Option Addr} {rs : List Ch} (h : ChsIn w A rs) (ho : Only [] w w') : ChsIn w' A rs := by
  intro k r hr
  obtain ⟨b, o, hA, hc⟩ := h k r hr
  exact ⟨b, o, hA, fun j v hv => by rw [World.cell?_of_block (w := w) (ho.block b (World.block_lt_of_cell? _ _ (hc j v hv)) (by simp))]; exact hc j v hv⟩
abbrev chT : TypeId := 102

def AfterS (w0 : World) (p q k : Nat) (wx : World) : Prop := ∃ vx vy rs, Both w0 p q vx vy rs wx ∧ Good rs ∧ rs.length ≤ k
theorem and32 (a b : Int) : 0 ≤ bits .and .u32 a b ∧ bits .and .u32 a b < 4294967296 := by
  have h : bits .and .u32 a b = IntKind.u32.wrap ((BitVec.ofInt 32 a &&& BitVec.ofInt 32 b).toNat : Int) := rfl
  rw [h, wrap32]; omega

/-- What Lookup answers. -/
def lkR (rs : List Rt) (a : Int) : Rt := (bestR rs a).getD Rt.zero
def lkC (rs : List Rt) (a : Int) : Int := if (bestR rs a).isNone then 39 else 0
theorem LookS.one {rs : List Rt} {a : Int} {w w' : World} {e : Ending} (h : LookS rs a w e w') : e = .returned (.tuple #[(lkR rs a).V, I64 (lkC rs a)]) ∧ Only [] w w' := by
  obtain ⟨ho, ⟨h1, rfl⟩ | ⟨y, h1, rfl⟩⟩ := h
  · refine ⟨?_, ho⟩; unfold lkR lkC; rw [h1]; rfl
  · refine ⟨?_, ho⟩; unfold lkR lkC; rw [h1]; rfl
theorem build_fpk (a t : Int) : ∀ w : World, (Instr.build 30 #[(1, .int .u32 a), (3, I64 t)]).run Try.prog w = .ok (.agg #[.int .u32 0, .int .u32 a, I64 0, I64 t, I64 0, I64 0, .bool false, .slice none 0 0]) w := fun _ => by kernel_rfl

theorem Both.far {w0 w w' : World} {p q G : Nat} {T : TypeId} {cs : List Value} {vx vy : Value} {rs : List Rt} (h : Both w0 p q vx vy rs w) (hC : Blk w G T cs) (h1 : 135 ≠ T) (h2 : 63 ≠ T) (h3 : 179 ≠ T) (h4 : 104 ≠ T) (hG : w0.heap.size ≤ G) (ho : Only [G] w w') : Both w0 p q vx vy rs w' :=
  ⟨h.x.only ho (by simpa using h.x.me.ne hC h1) (fun k hk hm => own_ne_blk h.x.row hC h2 (by rw [hk]; simpa using hm)),
   h.y.only ho (by simpa using h.y.me.ne hC h3) (fun k hk hm => own_ne_blk h.y.row hC h4 (by rw [hk]; simpa using hm)),
   h.p0, h.q0, h.o.trans' ho (by intro i hi hl; simp at hi; omega), h.bx, h.by'⟩

set_option maxRecDepth 100000 in
set_option maxHeartbeats 64000000 in
theorem lawrou (A : Option Addr) (n c : Nat) (l : List Ch) (w : World) (hn : l.length = n) (hm : ¬ 60 < n) (hf : ∀ x ∈ l, x.Fit) (hA : ChsIn w A l) :
    Calls Try.prog 12 #[.slice A n c] w fun e w' => e = .returned (.bool true) ∧ Only [] w w' := by
  have HN := hide hn
  have HF0 := hide hf
  have HR := hide hA
  clear hn hf hA
  go_enter Try.func12, Try.ntmps12
  go_wp2_with fail
  refine (newRoutes_ok _).mono ?_
  rintro e w1 ⟨rfl, h1, ho1⟩
  have H1 := hide (And.intro h1 ho1)
  clear h1 ho1
  go_wp2_with fail
  refine (refNewRoutes_ok _).mono ?_
  rintro e w2 ⟨rfl, h2, ho2⟩
  have HT := hide (show AfterS w w.heap.size w1.heap.size 0 w2 from ⟨_, _, [], ⟨H1.out.1.only ho2 (by simp) (by simp), h2, Nat.le_refl _, H1.out.2.size, Only.trans H1.out.2 ho2, by simp [Value.ownBlock], by simp [Value.ownBlock]⟩, by intro x hx; simp at hx, by simp⟩)
  obtain ⟨p, hp⟩ : ∃ p, p = w.heap.size := ⟨_, rfl⟩
  obtain ⟨q, hq⟩ : ∃ q, q = w1.heap.size := ⟨_, rfl⟩
  rw [← hp, ← hq] at HT
  rw [← hp, ← hq]
  clear h2 ho2 H1 hp hq
  go_wp2
  go_loopw [28] (fun i wr => ∃ k : Nat, k ≤ n ∧ i = .int .i64 k ∧ Hid (AfterS w p q k wr)) (fun i _ => n - (intOf i).toNat)
  case atStart => exact ⟨0, Nat.zero_le _, rfl, HT⟩
  case round =>
    obtain ⟨k, hk, rfl, HW⟩ := hrel
    rcases Nat.lt_or_ge k n with hlt | hge
    · obtain ⟨ch, hx⟩ : ∃ x, l[k]? = some x := ⟨_, List.getElem?_eq_getElem (by rw [HN.out]; exact hlt)⟩
      have hfit0 := HF0.out ch (List.mem_of_getElem? hx)
      obtain ⟨vx, vy, rs, hboth, hgood, hlen⟩ := HW.out
      obtain ⟨g, o, rfl, hcx⟩ := (HR.out.only hboth.o) k ch hx
      obtain ⟨kind, x, ttl⟩ := ch
      obtain ⟨hfit, htt⟩ := hfit0
      have x0 := hcx 0 _ rfl
      rw [Nat.add_zero] at x0
      have x1 := hcx 1 _ rfl
      have x2 := hcx 2 _ rfl
      have x3 := hcx 3 _ rfl
      have x4 := hcx 4 _ rfl
      have x5 := hcx 5 _ rfl
      have x6 := hcx 6 _ rfl
      have hal : Only [] wr (wr.alloc (.cells #[I64 kind, .int .u32 x.addr, I64 x.bits, .int .u32 x.gw, I64 x.ifc, I64 x.met, I64 ttl] 102)) := (Only.refl [] wr).alloc _
      have hbx : Blk (wr.alloc (.cells #[I64 kind, .int .u32 x.addr, I64 x.bits, .int .u32 x.gw, I64 x.ifc, I64 x.met, I64 ttl] 102)) wr.heap.size 102 [I64 kind, .int .u32 x.addr, I64 x.bits, .int .u32 x.gw, I64 x.ifc, I64 x.met, I64 ttl] := Blk.newA rfl
      obtain ⟨W, hW⟩ : ∃ W, W = wr.alloc (.cells #[I64 kind, .int .u32 x.addr, I64 x.bits, .int .u32 x.gw, I64 x.ifc, I64 x.met, I64 ttl] 102) := ⟨_, rfl⟩
      obtain ⟨G, hG⟩ : ∃ G, G = wr.heap.size := ⟨_, rfl⟩
      rw [← hW, ← hG] at hbx
      rw [← hW] at hal
      have hGw : w.heap.size ≤ G := by rw [hG]; exact hboth.o.size
      have HWW := hide hW
      have HGG := hide hG
      have HB := hide (hboth.only hal)
      have HC := hide hbx
      have HGD := hide hgood
      clear hx hcx hboth hgood hal hbx hW hG HW
      go_upto_block 2 with (fail)
      simp only [← HGG.out]
      rw [← HWW.out]
      clear HWW HGG x0 x1 x2 x3 x4 x5 x6
      have c0 := HC.out.cell (i := 0) rfl
      have c1 := HC.out.cell (i := 1) rfl
      have c2 := HC.out.cell (i := 2) rfl
      have c3 := HC.out.cell (i := 3) rfl
      have c4 := HC.out.cell (i := 4) rfl
      have c5 := HC.out.cell (i := 5) rfl
      have c6 := HC.out.cell (i := 6) rfl
      have ltg := HC.out.lt
      go_cut [33] (fun s wx => s = I64 kind ∧ AfterS w p q (k + 1) wx)
      case first =>
        by_cases h2 : kind = 2
        · subst h2
          by_cases hb : 0 ≤ x.bits ∧ x.bits < 32
          · obtain ⟨hb1, hb2⟩ := hb
            have fz := HC.out.frozen 1
            go_wp2
            refine wp_region_text 11 [] [] [] (fun _ => True) (by kernel_rfl) (by kernel_rfl) trivial ?_
            simp only [List.take_succ_cons, List.take_zero, List.drop_succ_cons, List.drop_zero]
            repeat (first | ((refine wpText_h rfl rfl ?_; apply Exists.intro; refine ⟨?_, ?_⟩; next => (go_simp; (try (go_bits; go_simp)); (first | done | with_reducible rfl | (rw [if_neg (by omega)]; (try (go_bits; go_simp)); (first | done | with_reducible rfl)) | (rw [if_pos (by omega)]; (try (go_bits; go_simp)); (first | done | with_reducible rfl))))); (try simp only [Act.put, List.setIfInBounds_toArray, List.set_cons_zero, List.set_cons_succ])) | ((refine wpText_p rfl rfl ?_; apply Exists.intro; refine ⟨?_, ?_⟩; next => (intro w'; go_simp; (try (go_bits; go_simp)); (first | done | with_reducible rfl | (rw [if_neg (by omega)]; (try (go_bits; go_simp)); (first | done | with_reducible rfl)) | (rw [if_pos (by omega)]; (try (go_bits; go_simp)); (first | done | with_reducible rfl))))); (try simp only [Act.put, List.setIfInBounds_toArray, List.set_cons_zero, List.set_cons_succ])) | ((refine wpText_y rfl rfl ?_; apply Exists.intro; refine ⟨?_, ?_⟩; next => (intro w' hS; (first | obtain ⟨_, rfl⟩ := hS | skip); go_simp; (try (go_bits; go_simp)); (first | done | with_reducible rfl | (rw [if_neg (by omega)]; (try (go_bits; go_simp)); (first | done | with_reducible rfl)) | (rw [if_pos (by omega)]; (try (go_bits; go_simp)); (first | done | with_reducible rfl))))); (try simp only [Act.put, List.setIfInBounds_toArray, List.set_cons_zero, List.set_cons_succ])) | (refine wpText_skip (by first | exact .inl rfl | exact .inr (.inl rfl) | exact .inr (.inr rfl)) rfl ?_; (try simp only [Act.put, List.setIfInBounds_toArray, List.set_cons_zero, List.set_cons_succ])))
            refine wpText_nil ?_
            go_wp2
            refine NoX.normal ?_
            have had := and32 x.addr (4294967295 * 2 ^ (32 - x.bits).toNat % 4294967296)
            obtain ⟨ad, hadd⟩ : ∃ ad, ad = bits BinOp.and IntKind.u32 x.addr (4294967295 * 2 ^ (32 - x.bits).toNat % 4294967296) := ⟨_, rfl⟩
            rw [← hadd] at had ⊢
            have hso : Only [G] W (W.setCell ⟨G, 1, none⟩ (.int .u32 ad)).drew := (((Only.refl [G] W).set (p := ⟨G, 1, none⟩) (.inl (by simp)) (.int .u32 ad))).drew
            have hc5 : Blk (W.setCell ⟨G, 1, none⟩ (.int .u32 ad)).drew G 102 [I64 2, .int .u32 ad, I64 x.bits, .int .u32 x.gw, I64 x.ifc, I64 x.met, I64 ttl] := (HC.out.set 1 (.int .u32 ad)).drew
            have hb5 := HB.out.far HC.out (by decide) (by decide) (by decide) (by decide) hGw hso
            obtain ⟨W5, hW5⟩ : ∃ W5, W5 = (W.setCell ⟨G, 1, none⟩ (.int .u32 ad)).drew := ⟨_, rfl⟩
            rw [← hW5] at hc5 hb5 ⊢
            have hfit : (⟨ad, x.bits, x.gw, x.ifc, x.met⟩ : Rt).Fit := had
            have HB := hide hb5
            have HC := hide hc5
            clear hadd had hso hW5 hc5 hb5 c0 c1 c2 c3 c4 c5 c6 ltg fz
            have c0 := HC.out.cell (i := 0) rfl
            have c1 := HC.out.cell (i := 1) rfl
            have c2 := HC.out.cell (i := 2) rfl
            have c3 := HC.out.cell (i := 3) rfl
            have c4 := HC.out.cell (i := 4) rfl
            have c5 := HC.out.cell (i := 5) rfl
            have c6 := HC.out.cell (i := 6) rfl
            have ltg := HC.out.lt
            go_wp2
            refine wp_region_text 7 [3] [4, 5] [6] (fun w' => w'.cell? ⟨G, 1, none⟩ = some (.int .u32 ad) ∧ w'.cell? ⟨G, 2, none⟩ = some (I64 x.bits) ∧ w'.cell? ⟨G, 3, none⟩ = some (.int .u32 x.gw) ∧ w'.cell? ⟨G, 4, none⟩ = some (I64 x.ifc) ∧ w'.cell? ⟨G, 5, none⟩ = some (I64 x.met)) (by kernel_rfl) (by kernel_rfl) ⟨c1, c2, c3, c4, c5⟩ ?_
            simp only [List.take_succ_cons, List.take_zero, List.drop_succ_cons, List.drop_zero]
            repeat (first | ((refine wpText_h rfl rfl ?_; apply Exists.intro; refine ⟨?_, ?_⟩; next => (go_simp; (try (go_bits; go_simp)); (first | done | with_reducible rfl | (rw [if_neg (by omega)]; (try (go_bits; go_simp)); (first | done | with_reducible rfl)) | (rw [if_pos (by omega)]; (try (go_bits; go_simp)); (first | done | with_reducible rfl))))); (try simp only [Act.put, List.setIfInBounds_toArray, List.set_cons_zero, List.set_cons_succ])) | ((refine wpText_p rfl rfl ?_; apply Exists.intro; refine ⟨?_, ?_⟩; next => (intro w'; go_simp; (try (go_bits; go_simp)); (first | done | with_reducible rfl | (rw [if_neg (by omega)]; (try (go_bits; go_simp)); (first | done | with_reducible rfl)) | (rw [if_pos (by omega)]; (try (go_bits; go_simp)); (first | done | with_reducible rfl))))); (try simp only [Act.put, List.setIfInBounds_toArray, List.set_cons_zero, List.set_cons_succ])) | ((refine wpText_y rfl rfl ?_; apply Exists.intro; refine ⟨?_, ?_⟩; next => (intro w' hS; (first | obtain ⟨_, rfl⟩ := hS | skip); go_simp; (try (go_bits; go_simp)); (first | done | with_reducible rfl | (rw [if_neg (by omega)]; (try (go_bits; go_simp)); (first | done | with_reducible rfl)) | (rw [if_pos (by omega)]; (try (go_bits; go_simp)); (first | done | with_reducible rfl))))); (try simp only [Act.put, List.setIfInBounds_toArray, List.set_cons_zero, List.set_cons_succ])) | (refine wpText_skip (by first | exact .inl rfl | exact .inr (.inl rfl) | exact .inr (.inr rfl)) rfl ?_; (try simp only [Act.put, List.setIfInBounds_toArray, List.set_cons_zero, List.set_cons_succ])))
            refine wpText_e rfl rfl (fun K hK => ?_)
            go_wp2_with fail
            refine ((addRt_ok p vx rs _ ⟨ad, x.bits, x.gw, x.ifc, x.met⟩ _ rfl (by omega) hfit (HB.out.only ((Only.refl [] _).drew)).x).mono (fun _ _ h => AddRtS.step (HB.out.only ((Only.refl [] _).drew)).x h)).mono ?_
            rintro e w3 ⟨rfl, v', k1, k2, k3⟩
            obtain ⟨x1, y1, o1, b1⟩ := (HB.out.only ((Only.refl [] _).drew)).stepX k1 k2 k3
            have hc3 := k2.blk HC.out.drew (by
              simp only [List.mem_cons, Option.mem_toList, not_or]
              exact ⟨HC.out.ne HB.out.x.me (by decide), own_ne_blk HB.out.x.row HC.out (by decide)⟩)
            refine hK _ _ ⟨hc3.cell rfl, hc3.cell rfl, hc3.cell rfl, hc3.cell rfl, hc3.cell rfl⟩ ?_
            clear hK K
            have H3 := hide (show _ ∧ _ ∧ _ ∧ _ from ⟨x1, y1, o1, b1⟩)
            clear x1 y1 o1 b1 hc3 k1 k2 k3 c0 c1 c2 c3 c4 c5 c6 ltg
            repeat (first | ((refine wpText_h rfl rfl ?_; apply Exists.intro; refine ⟨?_, ?_⟩; next => (go_simp; (try (go_bits; go_simp)); (first | done | with_reducible rfl | (rw [if_neg (by omega)]; (try (go_bits; go_simp)); (first | done | with_reducible rfl)) | (rw [if_pos (by omega)]; (try (go_bits; go_simp)); (first | done | with_reducible rfl))))); (try simp only [Act.put, List.setIfInBounds_toArray, List.set_cons_zero, List.set_cons_succ])) | ((refine wpText_p rfl rfl ?_; apply Exists.intro; refine ⟨?_, ?_⟩; next => (intro w'; go_simp; (try (go_bits; go_simp)); (first | done | with_reducible rfl | (rw [if_neg (by omega)]; (try (go_bits; go_simp)); (first | done | with_reducible rfl)) | (rw [if_pos (by omega)]; (try (go_bits; go_simp)); (first | done | with_reducible rfl))))); (try simp only [Act.put, List.setIfInBounds_toArray, List.set_cons_zero, List.set_cons_succ])) | ((refine wpText_y rfl rfl ?_; apply Exists.intro; refine ⟨?_, ?_⟩; next => (intro w' hS; (first | obtain ⟨_, rfl⟩ := hS | skip); go_simp; (try (go_bits; go_simp)); (first | done | with_reducible rfl | (rw [if_neg (by omega)]; (try (go_bits; go_simp)); (first | done | with_reducible rfl)) | (rw [if_pos (by omega)]; (try (go_bits; go_simp)); (first | done | with_reducible rfl))))); (try simp only [Act.put, List.setIfInBounds_toArray, List.set_cons_zero, List.set_cons_succ])) | (refine wpText_skip (by first | exact .inl rfl | exact .inr (.inl rfl) | exact .inr (.inr rfl)) rfl ?_; (try simp only [Act.put, List.setIfInBounds_toArray, List.set_cons_zero, List.set_cons_succ])))
            refine wpText_nil ?_
            go_wp2_with fail
            refine (route_ok ⟨ad, x.bits, x.gw, x.ifc, x.met⟩ _).mono ?_
            rintro e w4 ⟨rfl, ho4⟩
            have H4 := hide (show _ ∧ _ ∧ _ from ⟨H3.out.1.only ho4 (by simp) (by simp), H3.out.2.1.only ho4 (by simp) (by simp), Only.trans H3.out.2.2.1 ho4⟩)
            clear ho4
            go_wp2_with fail
            refine ((refAddRt_ok q vy rs _ ⟨ad, x.bits, x.gw, x.ifc, x.met⟩ _ rfl (by omega) hfit H4.out.2.1).mono (fun _ _ h => RAddRtS.step H4.out.2.1 h)).mono ?_
            rintro e w5 ⟨rfl, v'', k4, k5, k6⟩
            have HF := hide (Both.stepY H4.out.1 H4.out.2.1 HB.out.p0 HB.out.q0 H4.out.2.2 H3.out.2.2.2 HB.out.by' k4 k5 k6)
            clear k4 k5 k6
            have hne : (addCode rs ⟨ad, x.bits, x.gw, x.ifc, x.met⟩ != addCode rs ⟨ad, x.bits, x.gw, x.ifc, x.met⟩) = false := by simp
            go_wp2
            refine NoX.normal ?_
            go_wp2_with fail
            go_meet
            exact ⟨rfl, _, _, _, HF.out, HGD.out.add hfit, by have := addR_len rs ⟨ad, x.bits, x.gw, x.ifc, x.met⟩; omega⟩
          · have hb1 : ¬ 0 ≤ x.bits ∨ (0 ≤ x.bits ∧ ¬ x.bits < 32) := by omega
            clear hb
            rcases hb1 with hb1 | ⟨hb1, hb2⟩
            · go_wp2
              refine wp_region_text 7 [3] [4, 5] [6] (fun w' => w'.cell? ⟨G, 1, none⟩ = some (.int .u32 x.addr) ∧ w'.cell? ⟨G, 2, none⟩ = some (I64 x.bits) ∧ w'.cell? ⟨G, 3, none⟩ = some (.int .u32 x.gw) ∧ w'.cell? ⟨G, 4, none⟩ = some (I64 x.ifc) ∧ w'.cell? ⟨G, 5, none⟩ = some (I64 x.met)) (by kernel_rfl) (by kernel_rfl) ⟨c1, c2, c3, c4, c5⟩ ?_
              simp only [List.take_succ_cons, List.take_zero, List.drop_succ_cons, List.drop_zero]
              repeat (first | ((refine wpText_h rfl rfl ?_; apply Exists.intro; refine ⟨?_, ?_⟩; next => (go_simp; (try (go_bits; go_simp)); (first | done | with_reducible rfl | (rw [if_neg (by omega)]; (try (go_bits; go_simp)); (first | done | with_reducible rfl)) | (rw [if_pos (by omega)]; (try (go_bits; go_simp)); (first | done | with_reducible rfl))))); (try simp only [Act.put, List.setIfInBounds_toArray, List.set_cons_zero, List.set_cons_succ])) | ((refine wpText_p rfl rfl ?_; apply Exists.intro; refine ⟨?_, ?_⟩; next => (intro w'; go_simp; (try (go_bits; go_simp)); (first | done | with_reducible rfl | (rw [if_neg (by omega)]; (try (go_bits; go_simp)); (first | done | with_reducible rfl)) | (rw [if_pos (by omega)]; (try (go_bits; go_simp)); (first | done | with_reducible rfl))))); (try simp only [Act.put, List.setIfInBounds_toArray, List.set_cons_zero, List.set_cons_succ])) | ((refine wpText_y rfl rfl ?_; apply Exists.intro; refine ⟨?_, ?_⟩; next => (intro w' hS; (first | obtain ⟨_, rfl⟩ := hS | skip); go_simp; (try (go_bits; go_simp)); (first | done | with_reducible rfl | (rw [if_neg (by omega)]; (try (go_bits; go_simp)); (first | done | with_reducible rfl)) | (rw [if_pos (by omega)]; (try (go_bits; go_simp)); (first | done | with_reducible rfl))))); (try simp only [Act.put, List.setIfInBounds_toArray, List.set_cons_zero, List.set_cons_succ])) | (refine wpText_skip (by first | exact .inl rfl | exact .inr (.inl rfl) | exact .inr (.inr rfl)) rfl ?_; (try simp only [Act.put, List.setIfInBounds_toArray, List.set_cons_zero, List.set_cons_succ])))
              refine wpText_e rfl rfl (fun K hK => ?_)
              go_wp2_with fail
              refine ((addRt_ok p vx rs _ x _ rfl (by omega) hfit (HB.out.only ((Only.refl [] _).drew)).x).mono (fun _ _ h => AddRtS.step (HB.out.only ((Only.refl [] _).drew)).x h)).mono ?_
              rintro e w3 ⟨rfl, v', k1, k2, k3⟩
              obtain ⟨x1, y1, o1, b1⟩ := (HB.out.only ((Only.refl [] _).drew)).stepX k1 k2 k3
              have hc3 := k2.blk HC.out.drew (by
                simp only [List.mem_cons, Option.mem_toList, not_or]
                exact ⟨HC.out.ne HB.out.x.me (by decide), own_ne_blk HB.out.x.row HC.out (by decide)⟩)
              refine hK _ _ ⟨hc3.cell rfl, hc3.cell rfl, hc3.cell rfl, hc3.cell rfl, hc3.cell rfl⟩ ?_
              clear hK K
              have H3 := hide (show _ ∧ _ ∧ _ ∧ _ from ⟨x1, y1, o1, b1⟩)
              clear x1 y1 o1 b1 hc3 k1 k2 k3 c0 c1 c2 c3 c4 c5 c6 ltg
              repeat (first | ((refine wpText_h rfl rfl ?_; apply Exists.intro; refine ⟨?_, ?_⟩; next => (go_simp; (try (go_bits; go_simp)); (first | done | with_reducible rfl | (rw [if_neg (by omega)]; (try (go_bits; go_simp)); (first | done | with_reducible rfl)) | (rw [if_pos (by omega)]; (try (go_bits; go_simp)); (first | done | with_reducible rfl))))); (try simp only [Act.put, List.setIfInBounds_toArray, List.set_cons_zero, List.set_cons_succ])) | ((refine wpText_p rfl rfl ?_; apply Exists.intro; refine ⟨?_, ?_⟩; next => (intro w'; go_simp; (try (go_bits; go_simp)); (first | done | with_reducible rfl | (rw [if_neg (by omega)]; (try (go_bits; go_simp)); (first | done | with_reducible rfl)) | (rw [if_pos (by omega)]; (try (go_bits; go_simp)); (first | done | with_reducible rfl))))); (try simp only [Act.put, List.setIfInBounds_toArray, List.set_cons_zero, List.set_cons_succ])) | ((refine wpText_y rfl rfl ?_; apply Exists.intro; refine ⟨?_, ?_⟩; next => (intro w' hS; (first | obtain ⟨_, rfl⟩ := hS | skip); go_simp; (try (go_bits; go_simp)); (first | done | with_reducible rfl | (rw [if_neg (by omega)]; (try (go_bits; go_simp)); (first | done | with_reducible rfl)) | (rw [if_pos (by omega)]; (try (go_bits; go_simp)); (first | done | with_reducible rfl))))); (try simp only [Act.put, List.setIfInBounds_toArray, List.set_cons_zero, List.set_cons_succ])) | (refine wpText_skip (by first | exact .inl rfl | exact .inr (.inl rfl) | exact .inr (.inr rfl)) rfl ?_; (try simp only [Act.put, List.setIfInBounds_toArray, List.set_cons_zero, List.set_cons_succ])))
              refine wpText_nil ?_
              go_wp2_with fail
              refine (route_ok x _).mono ?_
              rintro e w4 ⟨rfl, ho4⟩
              have H4 := hide (show _ ∧ _ ∧ _ from ⟨H3.out.1.only ho4 (by simp) (by simp), H3.out.2.1.only ho4 (by simp) (by simp), Only.trans H3.out.2.2.1 ho4⟩)
              clear ho4
              go_wp2_with fail
              refine ((refAddRt_ok q vy rs _ x _ rfl (by omega) hfit H4.out.2.1).mono (fun _ _ h => RAddRtS.step H4.out.2.1 h)).mono ?_
              rintro e w5 ⟨rfl, v'', k4, k5, k6⟩
              have HF := hide (Both.stepY H4.out.1 H4.out.2.1 HB.out.p0 HB.out.q0 H4.out.2.2 H3.out.2.2.2 HB.out.by' k4 k5 k6)
              clear k4 k5 k6
              have hne : (addCode rs x != addCode rs x) = false := by simp
              go_wp2
              refine NoX.normal ?_
              go_wp2_with fail
              go_meet
              exact ⟨rfl, _, _, _, HF.out, HGD.out.add hfit, by have := addR_len rs x; omega⟩
            · go_wp2
              refine wp_region_text 7 [3] [4, 5] [6] (fun w' => w'.cell? ⟨G, 1, none⟩ = some (.int .u32 x.addr) ∧ w'.cell? ⟨G, 2, none⟩ = some (I64 x.bits) ∧ w'.cell? ⟨G, 3, none⟩ = some (.int .u32 x.gw) ∧ w'.cell? ⟨G, 4, none⟩ = some (I64 x.ifc) ∧ w'.cell? ⟨G, 5, none⟩ = some (I64 x.met)) (by kernel_rfl) (by kernel_rfl) ⟨c1, c2, c3, c4, c5⟩ ?_
              simp only [List.take_succ_cons, List.take_zero, List.drop_succ_cons, List.drop_zero]
              repeat (first | ((refine wpText_h rfl rfl ?_; apply Exists.intro; refine ⟨?_, ?_⟩; next => (go_simp; (try (go_bits; go_simp)); (first | done | with_reducible rfl | (rw [if_neg (by omega)]; (try (go_bits; go_simp)); (first | done | with_reducible rfl)) | (rw [if_pos (by omega)]; (try (go_bits; go_simp)); (first | done | with_reducible rfl))))); (try simp only [Act.put, List.setIfInBounds_toArray, List.set_cons_zero, List.set_cons_succ])) | ((refine wpText_p rfl rfl ?_; apply Exists.intro; refine ⟨?_, ?_⟩; next => (intro w'; go_simp; (try (go_bits; go_simp)); (first | done | with_reducible rfl | (rw [if_neg (by omega)]; (try (go_bits; go_simp)); (first | done | with_reducible rfl)) | (rw [if_pos (by omega)]; (try (go_bits; go_simp)); (first | done | with_reducible rfl))))); (try simp only [Act.put, List.setIfInBounds_toArray, List.set_cons_zero, List.set_cons_succ])) | ((refine wpText_y rfl rfl ?_; apply Exists.intro; refine ⟨?_, ?_⟩; next => (intro w' hS; (first | obtain ⟨_, rfl⟩ := hS | skip); go_simp; (try (go_bits; go_simp)); (first | done | with_reducible rfl | (rw [if_neg (by omega)]; (try (go_bits; go_simp)); (first | done | with_reducible rfl)) | (rw [if_pos (by omega)]; (try (go_bits; go_simp)); (first | done | with_reducible rfl))))); (try simp only [Act.put, List.setIfInBounds_toArray, List.set_cons_zero, List.set_cons_succ])) | (refine wpText_skip (by first | exact .inl rfl | exact .inr (.inl rfl) | exact .inr (.inr rfl)) rfl ?_; (try simp only [Act.put, List.setIfInBounds_toArray, List.set_cons_zero, List.set_cons_succ])))
              refine wpText_e rfl rfl (fun K hK => ?_)
              go_wp2_with fail
              refine ((addRt_ok p vx rs _ x _ rfl (by omega) hfit (HB.out.only ((Only.refl [] _).drew)).x).mono (fun _ _ h => AddRtS.step (HB.out.only ((Only.refl [] _).drew)).x h)).mono ?_
              rintro e w3 ⟨rfl, v', k1, k2, k3⟩
              obtain ⟨x1, y1, o1, b1⟩ := (HB.out.only ((Only.refl [] _).drew)).stepX k1 k2 k3
              have hc3 := k2.blk HC.out.drew (by
                simp only [List.mem_cons, Option.mem_toList, not_or]
                exact ⟨HC.out.ne HB.out.x.me (by decide), own_ne_blk HB.out.x.row HC.out (by decide)⟩)
              refine hK _ _ ⟨hc3.cell rfl, hc3.cell rfl, hc3.cell rfl, hc3.cell rfl, hc3.cell rfl⟩ ?_
              clear hK K
              have H3 := hide (show _ ∧ _ ∧ _ ∧ _ from ⟨x1, y1, o1, b1⟩)
              clear x1 y1 o1 b1 hc3 k1 k2 k3 c0 c1 c2 c3 c4 c5 c6 ltg
              repeat (first | ((refine wpText_h rfl rfl ?_; apply Exists.intro; refine ⟨?_, ?_⟩; next => (go_simp; (try (go_bits; go_simp)); (first | done | with_reducible rfl | (rw [if_neg (by omega)]; (try (go_bits; go_simp)); (first | done | with_reducible rfl)) | (rw [if_pos (by omega)]; (try (go_bits; go_simp)); (first | done | with_reducible rfl))))); (try simp only [Act.put, List.setIfInBounds_toArray, List.set_cons_zero, List.set_cons_succ])) | ((refine wpText_p rfl rfl ?_; apply Exists.intro; refine ⟨?_, ?_⟩; next => (intro w'; go_simp; (try (go_bits; go_simp)); (first | done | with_reducible rfl | (rw [if_neg (by omega)]; (try (go_bits; go_simp)); (first | done | with_reducible rfl)) | (rw [if_pos (by omega)]; (try (go_bits; go_simp)); (first | done | with_reducible rfl))))); (try simp only [Act.put, List.setIfInBounds_toArray, List.set_cons_zero, List.set_cons_succ])) | ((refine wpText_y rfl rfl ?_; apply Exists.intro; refine ⟨?_, ?_⟩; next => (intro w' hS; (first | obtain ⟨_, rfl⟩ := hS | skip); go_simp; (try (go_bits; go_simp)); (first | done | with_reducible rfl | (rw [if_neg (by omega)]; (try (go_bits; go_simp)); (first | done | with_reducible rfl)) | (rw [if_pos (by omega)]; (try (go_bits; go_simp)); (first | done | with_reducible rfl))))); (try simp only [Act.put, List.setIfInBounds_toArray, List.set_cons_zero, List.set_cons_succ])) | (refine wpText_skip (by first | exact .inl rfl | exact .inr (.inl rfl) | exact .inr (.inr rfl)) rfl ?_; (try simp only [Act.put, List.setIfInBounds_toArray, List.set_cons_zero, List.set_cons_succ])))
              refine wpText_nil ?_
              go_wp2_with fail
              refine (route_ok x _).mono ?_
              rintro e w4 ⟨rfl, ho4⟩
              have H4 := hide (show _ ∧ _ ∧ _ from ⟨H3.out.1.only ho4 (by simp) (by simp), H3.out.2.1.only ho4 (by simp) (by simp), Only.trans H3.out.2.2.1 ho4⟩)
              clear ho4
              go_wp2_with fail
              refine ((refAddRt_ok q vy rs _ x _ rfl (by omega) hfit H4.out.2.1).mono (fun _ _ h => RAddRtS.step H4.out.2.1 h)).mono ?_
              rintro e w5 ⟨rfl, v'', k4, k5, k6⟩
              have HF := hide (Both.stepY H4.out.1 H4.out.2.1 HB.out.p0 HB.out.q0 H4.out.2.2 H3.out.2.2.2 HB.out.by' k4 k5 k6)
              clear k4 k5 k6
              have hne : (addCode rs x != addCode rs x) = false := by simp
              go_wp2
              refine NoX.normal ?_
              go_wp2_with fail
              go_meet
              exact ⟨rfl, _, _, _, HF.out, HGD.out.add hfit, by have := addR_len rs x; omega⟩
        have n2 : (kind == 2) = false := by simpa using h2
        by_cases h0 : kind = 0
        · subst h0
          clear n2 h2
          go_wp2
          refine wp_region_text 7 [3] [4, 5] [6] (fun w' => w'.cell? ⟨G, 1, none⟩ = some (.int .u32 x.addr) ∧ w'.cell? ⟨G, 2, none⟩ = some (I64 x.bits) ∧ w'.cell? ⟨G, 3, none⟩ = some (.int .u32 x.gw) ∧ w'.cell? ⟨G, 4, none⟩ = some (I64 x.ifc) ∧ w'.cell? ⟨G, 5, none⟩ = some (I64 x.met)) (by kernel_rfl) (by kernel_rfl) ⟨c1, c2, c3, c4, c5⟩ ?_
          simp only [List.take_succ_cons, List.take_zero, List.drop_succ_cons, List.drop_zero]
          repeat (first | ((refine wpText_h rfl rfl ?_; apply Exists.intro; refine ⟨?_, ?_⟩; next => (go_simp; (try (go_bits; go_simp)); (first | done | with_reducible rfl | (rw [if_neg (by omega)]; (try (go_bits; go_simp)); (first | done | with_reducible rfl)) | (rw [if_pos (by omega)]; (try (go_bits; go_simp)); (first | done | with_reducible rfl))))); (try simp only [Act.put, List.setIfInBounds_toArray, List.set_cons_zero, List.set_cons_succ])) | ((refine wpText_p rfl rfl ?_; apply Exists.intro; refine ⟨?_, ?_⟩; next => (intro w'; go_simp; (try (go_bits; go_simp)); (first | done | with_reducible rfl | (rw [if_neg (by omega)]; (try (go_bits; go_simp)); (first | done | with_reducible rfl)) | (rw [if_pos (by omega)]; (try (go_bits; go_simp)); (first | done | with_reducible rfl))))); (try simp only [Act.put, List.setIfInBounds_toArray, List.set_cons_zero, List.set_cons_succ])) | ((refine wpText_y rfl rfl ?_; apply Exists.intro; refine ⟨?_, ?_⟩; next => (intro w' hS; (first | obtain ⟨_, rfl⟩ := hS | skip); go_simp; (try (go_bits; go_simp)); (first | done | with_reducible rfl | (rw [if_neg (by omega)]; (try (go_bits; go_simp)); (first | done | with_reducible rfl)) | (rw [if_pos (by omega)]; (try (go_bits; go_simp)); (first | done | with_reducible rfl))))); (try simp only [Act.put, List.setIfInBounds_toArray, List.set_cons_zero, List.set_cons_succ])) | (refine wpText_skip (by first | exact .inl rfl | exact .inr (.inl rfl) | exact .inr (.inr rfl)) rfl ?_; (try simp only [Act.put, List.setIfInBounds_toArray, List.set_cons_zero, List.set_cons_succ])))
          refine wpText_e rfl rfl (fun K hK => ?_)
          go_wp2_with fail
          refine ((addRt_ok p vx rs _ x _ rfl (by omega) hfit (HB.out.only ((Only.refl [] _).drew)).x).mono (fun _ _ h => AddRtS.step (HB.out.only ((Only.refl [] _).drew)).x h)).mono ?_
          rintro e w3 ⟨rfl, v', k1, k2, k3⟩
          obtain ⟨x1, y1, o1, b1⟩ := (HB.out.only ((Only.refl [] _).drew)).stepX k1 k2 k3
          have hc3 := k2.blk HC.out.drew (by
            simp only [List.mem_cons, Option.mem_toList, not_or]
            exact ⟨HC.out.ne HB.out.x.me (by decide), own_ne_blk HB.out.x.row HC.out (by decide)⟩)
          refine hK _ _ ⟨hc3.cell rfl, hc3.cell rfl, hc3.cell rfl, hc3.cell rfl, hc3.cell rfl⟩ ?_
          clear hK K
          have H3 := hide (show _ ∧ _ ∧ _ ∧ _ from ⟨x1, y1, o1, b1⟩)
          clear x1 y1 o1 b1 hc3 k1 k2 k3 c0 c1 c2 c3 c4 c5 c6 ltg
          repeat (first | ((refine wpText_h rfl rfl ?_; apply Exists.intro; refine ⟨?_, ?_⟩; next => (go_simp; (try (go_bits; go_simp)); (first | done | with_reducible rfl | (rw [if_neg (by omega)]; (try (go_bits; go_simp)); (first | done | with_reducible rfl)) | (rw [if_pos (by omega)]; (try (go_bits; go_simp)); (first | done | with_reducible rfl))))); (try simp only [Act.put, List.setIfInBounds_toArray, List.set_cons_zero, List.set_cons_succ])) | ((refine wpText_p rfl rfl ?_; apply Exists.intro; refine ⟨?_, ?_⟩; next => (intro w'; go_simp; (try (go_bits; go_simp)); (first | done | with_reducible rfl | (rw [if_neg (by omega)]; (try (go_bits; go_simp)); (first | done | with_reducible rfl)) | (rw [if_pos (by omega)]; (try (go_bits; go_simp)); (first | done | with_reducible rfl))))); (try simp only [Act.put, List.setIfInBounds_toArray, List.set_cons_zero, List.set_cons_succ])) | ((refine wpText_y rfl rfl ?_; apply Exists.intro; refine ⟨?_, ?_⟩; next => (intro w' hS; (first | obtain ⟨_, rfl⟩ := hS | skip); go_simp; (try (go_bits; go_simp)); (first | done | with_reducible rfl | (rw [if_neg (by omega)]; (try (go_bits; go_simp)); (first | done | with_reducible rfl)) | (rw [if_pos (by omega)]; (try (go_bits; go_simp)); (first | done | with_reducible rfl))))); (try simp only [Act.put, List.setIfInBounds_toArray, List.set_cons_zero, List.set_cons_succ])) | (refine wpText_skip (by first | exact .inl rfl | exact .inr (.inl rfl) | exact .inr (.inr rfl)) rfl ?_; (try simp only [Act.put, List.setIfInBounds_toArray, List.set_cons_zero, List.set_cons_succ])))
          refine wpText_nil ?_
          go_wp2_with fail
          refine (route_ok x _).mono ?_
          rintro e w4 ⟨rfl, ho4⟩
          have H4 := hide (show _ ∧ _ ∧ _ from ⟨H3.out.1.only ho4 (by simp) (by simp), H3.out.2.1.only ho4 (by simp) (by simp), Only.trans H3.out.2.2.1 ho4⟩)
          clear ho4
          go_wp2_with fail
          refine ((refAddRt_ok q vy rs _ x _ rfl (by omega) hfit H4.out.2.1).mono (fun _ _ h => RAddRtS.step H4.out.2.1 h)).mono ?_
          rintro e w5 ⟨rfl, v'', k4, k5, k6⟩
          have HF := hide (Both.stepY H4.out.1 H4.out.2.1 HB.out.p0 HB.out.q0 H4.out.2.2 H3.out.2.2.2 HB.out.by' k4 k5 k6)
          clear k4 k5 k6
          have hne : (addCode rs x != addCode rs x) = false := by simp
          go_wp2
          refine NoX.normal ?_
          go_wp2_with fail
          go_meet
          exact ⟨rfl, _, _, _, HF.out, HGD.out.add hfit, by have := addR_len rs x; omega⟩
        have n0 : (kind == 0) = false := by simpa using h0
        by_cases h1 : kind = 1
        · subst h1
          clear n2 h2 n0 h0
          go_wp2
          refine wp_region_text 7 [3] [4, 5] [6] (fun w' => w'.cell? ⟨G, 1, none⟩ = some (.int .u32 x.addr) ∧ w'.cell? ⟨G, 2, none⟩ = some (I64 x.bits) ∧ w'.cell? ⟨G, 3, none⟩ = some (.int .u32 x.gw) ∧ w'.cell? ⟨G, 4, none⟩ = some (I64 x.ifc) ∧ w'.cell? ⟨G, 5, none⟩ = some (I64 x.met)) (by kernel_rfl) (by kernel_rfl) ⟨c1, c2, c3, c4, c5⟩ ?_
          simp only [List.take_succ_cons, List.take_zero, List.drop_succ_cons, List.drop_zero]
          repeat (first | ((refine wpText_h rfl rfl ?_; apply Exists.intro; refine ⟨?_, ?_⟩; next => (go_simp; (try (go_bits; go_simp)); (first | done | with_reducible rfl | (rw [if_neg (by omega)]; (try (go_bits; go_simp)); (first | done | with_reducible rfl)) | (rw [if_pos (by omega)]; (try (go_bits; go_simp)); (first | done | with_reducible rfl))))); (try simp only [Act.put, List.setIfInBounds_toArray, List.set_cons_zero, List.set_cons_succ])) | ((refine wpText_p rfl rfl ?_; apply Exists.intro; refine ⟨?_, ?_⟩; next => (intro w'; go_simp; (try (go_bits; go_simp)); (first | done | with_reducible rfl | (rw [if_neg (by omega)]; (try (go_bits; go_simp)); (first | done | with_reducible rfl)) | (rw [if_pos (by omega)]; (try (go_bits; go_simp)); (first | done | with_reducible rfl))))); (try simp only [Act.put, List.setIfInBounds_toArray, List.set_cons_zero, List.set_cons_succ])) | ((refine wpText_y rfl rfl ?_; apply Exists.intro; refine ⟨?_, ?_⟩; next => (intro w' hS; (first | obtain ⟨_, rfl⟩ := hS | skip); go_simp; (try (go_bits; go_simp)); (first | done | with_reducible rfl | (rw [if_neg (by omega)]; (try (go_bits; go_simp)); (first | done | with_reducible rfl)) | (rw [if_pos (by omega)]; (try (go_bits; go_simp)); (first | done | with_reducible rfl))))); (try simp only [Act.put, List.setIfInBounds_toArray, List.set_cons_zero, List.set_cons_succ])) | (refine wpText_skip (by first | exact .inl rfl | exact .inr (.inl rfl) | exact .inr (.inr rfl)) rfl ?_; (try simp only [Act.put, List.setIfInBounds_toArray, List.set_cons_zero, List.set_cons_succ])))
          refine wpText_e rfl rfl (fun K hK => ?_)
          go_wp2_with fail
          refine ((remove_ok p vx rs _ x _ rfl (by omega) hfit (HB.out.only ((Only.refl [] _).drew)).x).mono (fun _ _ h => RemS.step (R := RoutesAt) (fun ho => (HB.out.only ((Only.refl [] _).drew)).x.only ho (by simp) (by simp)) h)).mono ?_
          rintro e w3 ⟨rfl, v', k1, k2, k3⟩
          obtain ⟨x1, y1, o1, b1⟩ := (HB.out.only ((Only.refl [] _).drew)).stepX k1 k2 k3
          have hc3 := k2.blk HC.out.drew (by
            simp only [List.mem_cons, Option.mem_toList, not_or]
            exact ⟨HC.out.ne HB.out.x.me (by decide), own_ne_blk HB.out.x.row HC.out (by decide)⟩)
          refine hK _ _ ⟨hc3.cell rfl, hc3.cell rfl, hc3.cell rfl, hc3.cell rfl, hc3.cell rfl⟩ ?_
          clear hK K
          have H3 := hide (show _ ∧ _ ∧ _ ∧ _ from ⟨x1, y1, o1, b1⟩)
          clear x1 y1 o1 b1 hc3 k1 k2 k3 c0 c1 c2 c3 c4 c5 c6 ltg
          repeat (first | ((refine wpText_h rfl rfl ?_; apply Exists.intro; refine ⟨?_, ?_⟩; next => (go_simp; (try (go_bits; go_simp)); (first | done | with_reducible rfl | (rw [if_neg (by omega)]; (try (go_bits; go_simp)); (first | done | with_reducible rfl)) | (rw [if_pos (by omega)]; (try (go_bits; go_simp)); (first | done | with_reducible rfl))))); (try simp only [Act.put, List.setIfInBounds_toArray, List.set_cons_zero, List.set_cons_succ])) | ((refine wpText_p rfl rfl ?_; apply Exists.intro; refine ⟨?_, ?_⟩; next => (intro w'; go_simp; (try (go_bits; go_simp)); (first | done | with_reducible rfl | (rw [if_neg (by omega)]; (try (go_bits; go_simp)); (first | done | with_reducible rfl)) | (rw [if_pos (by omega)]; (try (go_bits; go_simp)); (first | done | with_reducible rfl))))); (try simp only [Act.put, List.setIfInBounds_toArray, List.set_cons_zero, List.set_cons_succ])) | ((refine wpText_y rfl rfl ?_; apply Exists.intro; refine ⟨?_, ?_⟩; next => (intro w' hS; (first | obtain ⟨_, rfl⟩ := hS | skip); go_simp; (try (go_bits; go_simp)); (first | done | with_reducible rfl | (rw [if_neg (by omega)]; (try (go_bits; go_simp)); (first | done | with_reducible rfl)) | (rw [if_pos (by omega)]; (try (go_bits; go_simp)); (first | done | with_reducible rfl))))); (try simp only [Act.put, List.setIfInBounds_toArray, List.set_cons_zero, List.set_cons_succ])) | (refine wpText_skip (by first | exact .inl rfl | exact .inr (.inl rfl) | exact .inr (.inr rfl)) rfl ?_; (try simp only [Act.put, List.setIfInBounds_toArray, List.set_cons_zero, List.set_cons_succ])))
          refine wpText_nil ?_
          go_wp2_with fail
          refine (route_ok x _).mono ?_
          rintro e w4 ⟨rfl, ho4⟩
          have H4 := hide (show _ ∧ _ ∧ _ from ⟨H3.out.1.only ho4 (by simp) (by simp), H3.out.2.1.only ho4 (by simp) (by simp), Only.trans H3.out.2.2.1 ho4⟩)
          clear ho4
          go_wp2_with fail
          refine ((refRemove_ok q vy rs _ x _ rfl (by omega) hfit H4.out.2.1).mono (fun _ _ h => RemS.step (R := RRoutesAt) (fun ho => H4.out.2.1.only ho (by simp) (by simp)) h)).mono ?_
          rintro e w5 ⟨rfl, v'', k4, k5, k6⟩
          have HF := hide (Both.stepY H4.out.1 H4.out.2.1 HB.out.p0 HB.out.q0 H4.out.2.2 H3.out.2.2.2 HB.out.by' k4 k5 k6)
          clear k4 k5 k6
          have hne : (remCode rs x != remCode rs x) = false := by simp
          go_wp2
          refine NoX.normal ?_
          go_wp2_with fail
          go_meet
          exact ⟨rfl, _, _, _, HF.out, HGD.out.rem, by have := remL_len rs x; omega⟩
        have n1 : (kind == 1) = false := by simpa using h1
        by_cases h3 : kind = 3
        · subst h3
          clear n2 h2 n0 h0 n1 h1
          obtain ⟨Ax, cx, rfl⟩ := own_shape HB.out.x.row
          obtain ⟨Ay, cy, rfl⟩ := own_shape HB.out.y.row
          go_wp2_with fail
          refine ((lookup_ok p Ax cx rs _ x.addr _ rfl (by omega) hfit (fun y hy => code_bits (HGD.out y hy).1) HB.out.x).mono (fun _ _ h => LookS.one h)).mono ?_
          rintro e w3 ⟨rfl, ho3⟩
          obtain ⟨r, hr⟩ : ∃ r, r = lkR rs x.addr := ⟨_, rfl⟩
          have HRR := hide hr
          rw [← hr]
          clear hr
          have HB3 := hide ((HB.out.only ho3).only ((Only.refl [] w3).alloc (.cells #[.int .u32 r.addr, I64 r.bits, .int .u32 r.gw, I64 r.ifc, I64 r.met] 63)))
          have hc3 := (ho3.blk HC.out (by simp)).alloc (.cells #[.int .u32 r.addr, I64 r.bits, .int .u32 r.gw, I64 r.ifc, I64 r.met] 63)
          have d1 := (ho3.blk HC.out (by simp)).cell (i := 1) rfl
          have ltd := (ho3.blk HC.out (by simp)).lt
          have hr3 : Blk (w3.alloc (.cells #[.int .u32 r.addr, I64 r.bits, .int .u32 r.gw, I64 r.ifc, I64 r.met] 63)) w3.heap.size 63 [.int .u32 r.addr, I64 r.bits, .int .u32 r.gw, I64 r.ifc, I64 r.met] := Blk.newA rfl
          have HR3 := hide hr3
          clear ho3 hc3 hr3 c0 c1 c2 c3 c4 c5 c6 ltg
          go_wp2_with fail
          refine ((refLookup_ok q Ay cy rs _ x.addr _ rfl (by omega) hfit HGD.out HB3.out.y).mono (fun _ _ h => LookS.one h)).mono ?_
          rintro e w4 ⟨rfl, ho4⟩
          rw [← HRR.out]
          have hr4 := ho4.blk HR3.out (by simp)
          have f0 := hr4.cell (i := 0) rfl
          have f1 := hr4.cell (i := 1) rfl
          have f2 := hr4.cell (i := 2) rfl
          have f3 := hr4.cell (i := 3) rfl
          have f4 := hr4.cell (i := 4) rfl
          have lt4 := hr4.lt
          have hq4 : Blk (w4.alloc (.cells #[.int .u32 r.addr, I64 r.bits, .int .u32 r.gw, I64 r.ifc, I64 r.met] 104)) w4.heap.size 104 [.int .u32 r.addr, I64 r.bits, .int .u32 r.gw, I64 r.ifc, I64 r.met] := Blk.newA rfl
          have HB4 := hide (show _ ∧ _ from ⟨(HB3.out.only ho4).only ((Only.refl [] w4).alloc (.cells #[.int .u32 r.addr, I64 r.bits, .int .u32 r.gw, I64 r.ifc, I64 r.met] 104)), hq4⟩)
          have g0 := hq4.cell (i := 0) rfl
          have g1 := hq4.cell (i := 1) rfl
          have g2 := hq4.cell (i := 2) rfl
          have g3 := hq4.cell (i := 3) rfl
          have g4 := hq4.cell (i := 4) rfl
          clear ho4 hr4 hq4 d1 ltd HB3 HR3
          have HE : ∀ W : World, (binOp .neq 104 (.agg #[.int .u32 r.addr, I64 r.bits, .int .u32 r.gw, I64 r.ifc, I64 r.met]) (.agg #[.int .u32 r.addr, I64 r.bits, .int .u32 r.gw, I64 r.ifc, I64 r.met])).run Try.prog W = .ok (.bool false) W := fun W => by
            go_simp
          have hcc : (lkC rs x.addr != lkC rs x.addr) = false := by simp
          go_wp2_with fail
          refine wp_region_text0 9 [1] [] [2] (fun w' => w'.cell? ⟨w4.heap.size, 0, none⟩ = some (.int .u32 r.addr) ∧ w'.cell? ⟨w4.heap.size, 1, none⟩ = some (I64 r.bits) ∧ w'.cell? ⟨w4.heap.size, 2, none⟩ = some (.int .u32 r.gw) ∧ w'.cell? ⟨w4.heap.size, 3, none⟩ = some (I64 r.ifc) ∧ w'.cell? ⟨w4.heap.size, 4, none⟩ = some (I64 r.met)) (by kernel_rfl) (by kernel_rfl) ⟨g0, g1, g2, g3, g4⟩ ?_
          repeat (first | ((refine wpText_h rfl rfl ?_; apply Exists.intro; refine ⟨?_, ?_⟩; next => (go_simp; (try (go_bits; go_simp)); (first | done | with_reducible rfl | (rw [if_neg (by omega)]; (try (go_bits; go_simp)); (first | done | with_reducible rfl)) | (rw [if_pos (by omega)]; (try (go_bits; go_simp)); (first | done | with_reducible rfl))))); (try simp only [Act.put, List.setIfInBounds_toArray, List.set_cons_zero, List.set_cons_succ])) | ((refine wpText_p rfl rfl ?_; apply Exists.intro; refine ⟨?_, ?_⟩; next => (intro w'; go_simp; (try (go_bits; go_simp)); (first | done | with_reducible rfl | (rw [if_neg (by omega)]; (try (go_bits; go_simp)); (first | done | with_reducible rfl)) | (rw [if_pos (by omega)]; (try (go_bits; go_simp)); (first | done | with_reducible rfl))))); (try simp only [Act.put, List.setIfInBounds_toArray, List.set_cons_zero, List.set_cons_succ])) | ((refine wpText_y rfl rfl ?_; apply Exists.intro; refine ⟨?_, ?_⟩; next => (intro w' hS; (first | obtain ⟨_, rfl⟩ := hS | skip); go_simp; (try (go_bits; go_simp)); (first | done | with_reducible rfl | (rw [if_neg (by omega)]; (try (go_bits; go_simp)); (first | done | with_reducible rfl)) | (rw [if_pos (by omega)]; (try (go_bits; go_simp)); (first | done | with_reducible rfl))))); (try simp only [Act.put, List.setIfInBounds_toArray, List.set_cons_zero, List.set_cons_succ])) | (refine wpText_skip (by first | exact .inl rfl | exact .inr (.inl rfl) | exact .inr (.inr rfl)) rfl ?_; (try simp only [Act.put, List.setIfInBounds_toArray, List.set_cons_zero, List.set_cons_succ])))
          refine wpText_e rfl rfl (fun K hK => ?_)
          go_wp2_with fail
          refine (route_ok r _).mono ?_
          rintro e w5 ⟨rfl, ho5⟩
          have h5 := ho5.blk HB4.out.2.drew (by simp)
          refine hK _ _ ⟨h5.cell rfl, h5.cell rfl, h5.cell rfl, h5.cell rfl, h5.cell rfl⟩ ?_
          clear hK K
          have HB5 := hide ((HB4.out.1.only ((Only.refl [] _).drew)).only ho5)
          clear h5 ho5 f0 f1 f2 f3 f4 lt4 g0 g1 g2 g3 g4
          repeat (first | ((refine wpText_h rfl rfl ?_; apply Exists.intro; refine ⟨?_, ?_⟩; next => (go_simp; (try (go_bits; go_simp)); (first | done | with_reducible rfl | (rw [if_neg (by omega)]; (try (go_bits; go_simp)); (first | done | with_reducible rfl)) | (rw [if_pos (by omega)]; (try (go_bits; go_simp)); (first | done | with_reducible rfl))))); (try simp only [Act.put, List.setIfInBounds_toArray, List.set_cons_zero, List.set_cons_succ])) | ((refine wpText_p rfl rfl ?_; apply Exists.intro; refine ⟨?_, ?_⟩; next => (intro w'; go_simp; (try (go_bits; go_simp)); (first | done | with_reducible rfl | (rw [if_neg (by omega)]; (try (go_bits; go_simp)); (first | done | with_reducible rfl)) | (rw [if_pos (by omega)]; (try (go_bits; go_simp)); (first | done | with_reducible rfl))))); (try simp only [Act.put, List.setIfInBounds_toArray, List.set_cons_zero, List.set_cons_succ])) | ((refine wpText_y rfl rfl ?_; apply Exists.intro; refine ⟨?_, ?_⟩; next => (intro w' hS; (first | obtain ⟨_, rfl⟩ := hS | skip); go_simp; (try (go_bits; go_simp)); (first | done | with_reducible rfl | (rw [if_neg (by omega)]; (try (go_bits; go_simp)); (first | done | with_reducible rfl)) | (rw [if_pos (by omega)]; (try (go_bits; go_simp)); (first | done | with_reducible rfl))))); (try simp only [Act.put, List.setIfInBounds_toArray, List.set_cons_zero, List.set_cons_succ])) | (refine wpText_skip (by first | exact .inl rfl | exact .inr (.inl rfl) | exact .inr (.inr rfl)) rfl ?_; (try simp only [Act.put, List.setIfInBounds_toArray, List.set_cons_zero, List.set_cons_succ])))
          refine wpText_nil ?_
          clear HE
          go_wp2_with fail
          go_meet
          exact ⟨rfl, _, _, _, HB5.out, HGD.out, by omega⟩
        have n3 : (kind == 3) = false := by simpa using h3
        by_cases h4 : kind = 4
        · subst h4
          clear n2 h2 n0 h0 n1 h1 n3 h3
          have hbd := build_fpk x.addr ttl
          have hal : Only [] W (W.alloc (.cells #[.int .u32 0, .int .u32 x.addr, I64 0, I64 ttl, I64 0, I64 0, .bool false, .slice none 0 0] 30)) := (Only.refl [] W).alloc _
          have hp0 : Blk (W.alloc (.cells #[.int .u32 0, .int .u32 x.addr, I64 0, I64 ttl, I64 0, I64 0, .bool false, .slice none 0 0] 30)) W.heap.size 30 [.int .u32 0, .int .u32 x.addr, I64 0, I64 ttl, I64 0, I64 0, .bool false, .slice none 0 0] := Blk.newA rfl
          have HP0 := hide (show _ ∧ _ from ⟨HB.out.only hal, hp0⟩)
          clear hal hp0
          go_wp2_with fail
          refine (forward_ok p vx rs _ x.addr ttl _ rfl (by omega) hfit htt HGD.out HP0.out.1.x).mono ?_
          rintro e w3 ⟨A1, c1', rfl, ho3⟩
          have hfd := fwd_data rs x.addr ttl
          obtain ⟨nx, via, P, cd, hfw⟩ : ∃ nx via P cd, fwd rs x.addr ttl = (nx, via, P, cd) := ⟨_, _, _, _, rfl⟩
          have HFW := hide hfw
          rw [hfw] at hfd ⊢
          have HPD := hide (show P.data = [] from hfd)
          clear hfd hfw
          have hal3 : Only [] w3 (w3.alloc (.cells #[.int .u32 P.src, .int .u32 P.dst, I64 P.proto, I64 P.ttl, I64 P.id, I64 P.off, .bool P.more, .slice A1 P.data.length c1'] 30)) := (Only.refl [] w3).alloc _
          have hx3 : Blk (w3.alloc (.cells #[.int .u32 P.src, .int .u32 P.dst, I64 P.proto, I64 P.ttl, I64 P.id, I64 P.off, .bool P.more, .slice A1 P.data.length c1'] 30)) w3.heap.size 30 [.int .u32 P.src, .int .u32 P.dst, I64 P.proto, I64 P.ttl, I64 P.id, I64 P.off, .bool P.more, .slice A1 P.data.length c1'] := Blk.newA rfl
          have hq3 := ho3.blk HP0.out.2 (by simp)
          have H3 := hide (show _ ∧ _ ∧ _ from ⟨(HP0.out.1.only ho3).only hal3, hx3, hq3.alloc (.cells #[.int .u32 P.src, .int .u32 P.dst, I64 P.proto, I64 P.ttl, I64 P.id, I64 P.off, .bool P.more, .slice A1 P.data.length c1'] 30)⟩)
          have e0 := hq3.cell (i := 0) rfl
          have e1 := hq3.cell (i := 1) rfl
          have e2 := hq3.cell (i := 2) rfl
          have e3 := hq3.cell (i := 3) rfl
          have e4 := hq3.cell (i := 4) rfl
          have e5 := hq3.cell (i := 5) rfl
          have e6 := hq3.cell (i := 6) rfl
          have e7 := hq3.cell (i := 7) rfl
          have ltq := hq3.lt
          clear hal3 hx3 hq3 ho3 c0 c1 c2 c3 c4 c5 c6 ltg hbd
          go_wp2_with fail
          refine (ref_ok (fpk x.addr ttl) _).mono ?_
          rintro e w4 ⟨rfl, ho4⟩
          have H4 := hide (show _ ∧ _ from ⟨H3.out.1.only ho4, ho4.blk H3.out.2.1 (by simp)⟩)
          clear ho4 e0 e1 e2 e3 e4 e5 e6 e7 ltq
          go_wp2_with fail
          refine (refForward_ok q vy rs _ x.addr ttl _ rfl (by omega) hfit htt HGD.out H4.out.1.y).mono ?_
          rintro e w5 ⟨A2, c2', rfl, ho5⟩
          rw [HFW.out]
          have hx5 := ho5.blk H4.out.2 (by simp)
          have hal5 : Only [] w5 (w5.alloc (.cells #[.int .u32 P.src, .int .u32 P.dst, I64 P.proto, I64 P.ttl, I64 P.id, I64 P.off, .bool P.more, .slice A2 P.data.length c2'] 45)) := (Only.refl [] w5).alloc _
          have H5 := hide ((H4.out.1.only ho5).only hal5)
          have e0 := hx5.cell (i := 0) rfl
          have e1 := hx5.cell (i := 1) rfl
          have e2 := hx5.cell (i := 2) rfl
          have e3 := hx5.cell (i := 3) rfl
          have e4 := hx5.cell (i := 4) rfl
          have e5 := hx5.cell (i := 5) rfl
          have e6 := hx5.cell (i := 6) rfl
          have e7 := hx5.cell (i := 7) rfl
          have ltx := hx5.lt
          clear hx5 hal5 ho5 HP0 H3 H4
          have hcc : (cd != cd) = false := by simp
          have hcn : (nx != nx) = false := by simp
          have hcv : (via != via) = false := by simp
          go_wp2_with fail
          refine (same_true (P.at A1 c1') A2 c2' _ (by show P.data.length ≤ maxLen; rw [HPD.out]; simp [maxLen]) (by intro j y hy; rw [show (P.at A1 c1').data = P.data from rfl, HPD.out] at hy; simp at hy) (by intro j y hy; rw [show (P.at A1 c1').data = P.data from rfl, HPD.out] at hy; simp at hy)).mono ?_
          rintro e w6 ⟨rfl, ho6⟩
          have H6 := hide (H5.out.only ho6)
          clear ho6
          go_wp2_with fail
          go_meet
          exact ⟨rfl, _, _, _, H6.out, HGD.out, by omega⟩
        have n4 : (kind == 4) = false := by simpa using h4
        clear h2 h0 h1 h3 h4
        go_wp2_with fail
        go_meet
        exact ⟨rfl, _, _, _, HB.out, HGD.out, by omega⟩
      case rest =>
        obtain ⟨rfl, hcut⟩ := hcut
        obtain ⟨vx', vy', rs', hb, hgd, hln⟩ := hcut
        have HB9 := hide hb
        have HGD9 := hide hgd
        clear hb hgd HB HC HGD
        go_wp2_with fail
        refine (list_ok p vx' rs' _ _ rfl (by omega) HB9.out.x).mono ?_
        rintro e w3 ⟨A1, c1', rfl, hl1, ho3⟩
        have HB3 := hide (show _ ∧ _ from ⟨HB9.out.only ho3, hl1⟩)
        clear hl1 ho3
        go_wp2_with fail
        refine (refList_ok q vy' rs' _ _ rfl (by omega) HB3.out.1.y).mono ?_
        rintro e w4 ⟨A2, c2', rfl, hl2, ho4⟩
        have HB4 := hide (show _ ∧ _ ∧ _ from ⟨HB3.out.1.only ho4, HB3.out.2.only ho4, hl2⟩)
        clear hl2 ho4 HB3
        go_wp2_with fail
        refine (req_ok A1 A2 rs'.length c1' c2' rs' _ rfl (by omega) HB4.out.2.1 HB4.out.2.2).mono ?_
        rintro e w5 ⟨rfl, ho5⟩
        have HB5 := hide (HB4.out.1.only ho5)
        clear ho5
        go_wp2
        go_roundw
        case rel => exact ⟨k + 1, by omega, by go_num, hide ⟨_, _, _, HB5.out, HGD9.out, hln⟩⟩
        case measure => simp [intOf]; omega
    · obtain rfl : k = n := by omega
      clear HT
      go_wp2_with fail
      refine (awake_ok _).mono ?_
      rintro e w9 ⟨rfl, ho⟩
      have HZ := hide (show Only [] w w9 from by
        obtain ⟨vx, vy, rs, hb, _⟩ := HW.out
        exact Only.trans hb.o ho)
      clear ho
      go_wp2
      go_ret
      exact ⟨rfl, HZ.out⟩

end Go.Proofs.Ytlnejlhdkmneeaa
