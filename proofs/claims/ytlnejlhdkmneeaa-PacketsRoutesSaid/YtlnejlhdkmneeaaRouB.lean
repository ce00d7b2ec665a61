/- Routes: New, Add, Lookup. -/
import Derived.Test.YtlnejlhdkmneeaaRouA
import Derived.Test.YtlnejlhdkmneeaaRow
import Derived.Test.YtlnejlhdkmneeaaWalkJ
namespace Go.Proofs.Ytlnejlhdkmneeaa
open Go.RowKit

abbrev rtsT : TypeId := 135
theorem rt_len (r : Rt) : r.cells.length = 5 := rfl
theorem rt_info : (Try.prog.info? 63).map (fun i => (i.zero, i.size, i.bytes)) = some (some (.agg #[.int .u32 0, I64 0, .int .u32 0, I64 0, I64 0]), 5, 40) := by kernel_rfl

/-- A list of routes in memory. -/
structure RoutesAt (w : World) (b : Nat) (v : Value) (rs : List Rt) : Prop where
  me : Blk w b 135 [v]
  row : w.ownsRow 0 63 5 v rs.length (rs.flatMap Rt.cells)
theorem RoutesAt.only {w w' : World} {b : Nat} {v : Value} {rs : List Rt} {S : List Nat} (h : RoutesAt w b v rs) (ho : Only S w w') (h1 : b ∉ S) (h2 : ∀ k, v.ownBlock = some k → k ∉ S) : RoutesAt w' b v rs :=
  ⟨ho.blk h.me h1, own_only h.row ho h2⟩
theorem rflat_at {α : Type} {enc : α → List Value} {sz : Nat} (hs : ∀ x, (enc x).length = sz) : ∀ (xs : List α) (k : Nat) (x : α) (j : Nat) (v : Value), xs[k]? = some x → (enc x)[j]? = some v → (xs.flatMap enc)[k * sz + j]? = some v
  | [], k, x, j, v, h, _ => by simp at h
  | y :: ys, 0, x, j, v, h, hv => by
    simp at h; subst h
    rw [List.flatMap_cons, Nat.zero_mul, Nat.zero_add, List.getElem?_append_left]
    · exact hv
    · exact (List.getElem?_eq_some_iff.1 hv).1
  | y :: ys, k + 1, x, j, v, h, hv => by
    simp at h
    rw [List.flatMap_cons, List.getElem?_append_right (by rw [hs, Nat.add_mul]; omega), hs, show (k + 1) * sz + j - sz = k * sz + j by rw [Nat.add_mul]; omega]
    exact rflat_at hs ys k x j v h hv
theorem RoutesAt.rts {w : World} {b : Nat} {A : Option Addr} {c n : Nat} {rs : List Rt} (h : RoutesAt w b (.slice A n c) rs) : RtsIn w A rs := by
  intro k r hr
  rcases h.row.2 with ⟨he, h0⟩ | ⟨g, cap, cur, he, h1⟩
  · have := (List.getElem?_eq_some_iff.1 hr).1; omega
  · injection he with he
    subst he
    refine ⟨g, 0, rfl, fun j v hv => ?_⟩
    have := h.row.cells (g := g) rfl (k * 5 + j) v (rflat_at rt_len rs k r j v hr hv)
    rw [show (⟨g, 0, none⟩ : Addr).add (k * 5 + j) = ⟨g, k * 5 + j, none⟩ by unfold Addr.add; split <;> simp_all] at this
    rw [Nat.zero_add]
    exact this

set_option maxHeartbeats 2000000 in
theorem newRoutes_ok (w : World) : Calls Try.prog 31 #[] w fun e w' => e = .returned (.pointer (some ⟨w.heap.size, 0, none⟩)) ∧ RoutesAt w' w.heap.size (.slice none 0 0) [] ∧ Only [] w w' := by
  have hb : ∀ w : World, (Instr.build 135 #[]).run Try.prog w = .ok (.agg #[.slice none 0 0]) w := fun _ => by kernel_rfl
  go_enter Try.func31, Try.ntmps31
  go_wp2
  go_ret
  exact ⟨rfl, ⟨Blk.newA rfl, World.ownsRow_nil _ _ _ _⟩, (Only.refl [] w).alloc _⟩

/-- What Add answers. -/
def AddRtS (x : Rt) (rs : List Rt) (b : Nat) (v : Value) (w : World) (e : Ending) (w' : World) : Prop :=
  (e = .returned (I64 x.code) ∧ x.code ≠ 0 ∧ Only [] w w') ∨ (x.code = 0 ∧ x ∈ rs ∧ e = .returned (I64 10) ∧ Only [] w w') ∨ (x.code = 0 ∧ x ∉ rs ∧ 500 ≤ rs.length ∧ e = .returned (I64 18) ∧ Only [] w w') ∨
    (x.code = 0 ∧ x ∉ rs ∧ rs.length < 500 ∧ e = .returned (I64 0) ∧ ∃ v', RoutesAt w' b v' (rs ++ [x]) ∧ Only (b :: v.ownBlock.toList) w w' ∧ (v'.ownBlock = v.ownBlock ∨ ∃ g, v'.ownBlock = some g ∧ w.heap.size ≤ g))

set_option maxRecDepth 100000 in
set_option maxHeartbeats 8000000 in
theorem addRt_ok (b : Nat) (v : Value) (rs : List Rt) (n : Nat) (x : Rt) (w : World) (hn : rs.length = n) (hm : n ≤ 1000) (hf : x.Fit) (hr : RoutesAt w b v rs) :
    Calls Try.prog 32 #[.pointer (some ⟨b, 0, none⟩), x.V] w fun e w' => AddRtS x rs b v w e w' := by
  obtain ⟨A, c, rfl⟩ : ∃ A c, v = .slice A n c := by
    obtain ⟨A, c, h⟩ := own_shape hr.row
    exact ⟨A, c, by rw [h, hn]⟩
  have ho : Only [] w (w.alloc (.cells #[.int .u32 x.addr, I64 x.bits, .int .u32 x.gw, I64 x.ifc, I64 x.met] 63)) := (Only.refl [] w).alloc _
  have hx : Blk (w.alloc (.cells #[.int .u32 x.addr, I64 x.bits, .int .u32 x.gw, I64 x.ifc, I64 x.met] 63)) w.heap.size 63 [.int .u32 x.addr, I64 x.bits, .int .u32 x.gw, I64 x.ifc, I64 x.met] := Blk.newA rfl
  have hx0 := hx.cell (i := 0) rfl
  have H0 := hide (show _ ∧ _ ∧ _ from ⟨ho, hx, hr.only ho (by simp) (by simp)⟩)
  have HF := hide hf
  have HN := hide hn
  clear ho hx hr hf hn
  show Calls Try.prog 32 #[.pointer (some ⟨b, 0, none⟩), .agg #[.int .u32 x.addr, I64 x.bits, .int .u32 x.gw, I64 x.ifc, I64 x.met]] w _
  go_enter Try.func32, Try.ntmps32
  go_wp2_with fail
  refine (check_ok x _ HF.out).mono ?_
  rintro e w1 ⟨rfl, ho⟩
  have H1 := hide (show _ ∧ _ ∧ _ from ⟨Only.trans H0.out.1 ho, ho.blk H0.out.2.1 (by simp), H0.out.2.2.only ho (by simp) (by simp)⟩)
  clear ho hx0
  by_cases hc : x.code = 0
  · have HC := hide hc
    rw [hc]
    clear hc
    have x0 := H1.out.2.1.cell (i := 0) rfl
    have x1 := H1.out.2.1.cell (i := 1) rfl
    have x2 := H1.out.2.1.cell (i := 2) rfl
    have x3 := H1.out.2.1.cell (i := 3) rfl
    have x4 := H1.out.2.1.cell (i := 4) rfl
    have ltx := H1.out.2.1.lt
    have b0 := H1.out.2.2.me.cell (i := 0) rfl
    have ltb := H1.out.2.2.me.lt
    go_wp2_with fail
    refine wp_region_text 5 [] [] [] (fun _ => True) (by kernel_rfl) (by kernel_rfl) trivial ?_
    simp only [List.take_succ_cons, List.take_zero, List.drop_succ_cons, List.drop_zero]
    repeat (first | ((refine wpText_h rfl rfl ?_; apply Exists.intro; refine ⟨?_, ?_⟩; next => (go_simp; (try (go_bits; go_simp)); (first | done | with_reducible rfl | (rw [if_neg (by omega)]; (try (go_bits; go_simp)); (first | done | with_reducible rfl)) | (rw [if_pos (by omega)]; (try (go_bits; go_simp)); (first | done | with_reducible rfl))))); (try simp only [Act.put, List.setIfInBounds_toArray, List.set_cons_zero, List.set_cons_succ])) | ((refine wpText_p rfl rfl ?_; apply Exists.intro; refine ⟨?_, ?_⟩; next => (intro w'; go_simp; (try (go_bits; go_simp)); (first | done | with_reducible rfl | (rw [if_neg (by omega)]; (try (go_bits; go_simp)); (first | done | with_reducible rfl)) | (rw [if_pos (by omega)]; (try (go_bits; go_simp)); (first | done | with_reducible rfl))))); (try simp only [Act.put, List.setIfInBounds_toArray, List.set_cons_zero, List.set_cons_succ])) | ((refine wpText_y rfl rfl ?_; apply Exists.intro; refine ⟨?_, ?_⟩; next => (intro w' hS; (first | obtain ⟨_, rfl⟩ := hS | skip); go_simp; (try (go_bits; go_simp)); (first | done | with_reducible rfl | (rw [if_neg (by omega)]; (try (go_bits; go_simp)); (first | done | with_reducible rfl)) | (rw [if_pos (by omega)]; (try (go_bits; go_simp)); (first | done | with_reducible rfl))))); (try simp only [Act.put, List.setIfInBounds_toArray, List.set_cons_zero, List.set_cons_succ])) | (refine wpText_skip (by first | exact .inl rfl | exact .inr (.inl rfl) | exact .inr (.inr rfl)) rfl ?_; (try simp only [Act.put, List.setIfInBounds_toArray, List.set_cons_zero, List.set_cons_succ])))
    refine wpText_nil ?_
    go_wp2_with fail
    refine (contains_ok A rs n c x _ HN.out (by omega) (H1.out.2.2.rts.only ((Only.refl [] w1).drew))).mono ?_
    rintro e w2 ⟨rfl, ho⟩
    have ho := Only.trans ((Only.refl [] w1).drew) ho
    have H2 := hide (show _ ∧ _ ∧ _ from ⟨Only.trans H1.out.1 ho, ho.blk H1.out.2.1 (by simp), H1.out.2.2.only ho (by simp) (by simp)⟩)
    clear ho x0 x1 x2 x3 x4 ltx b0 ltb H1 H0
    by_cases hin : x ∈ rs
    · rw [decide_eq_true hin]
      have HI := hide hin
      clear hin
      go_wp2
      refine NoX.normal ?_
      go_wp2
      go_ret
      exact .inr (.inl ⟨HC.out, HI.out, rfl, H2.out.1⟩)
    · rw [decide_eq_false hin]
      have HI := hide hin
      clear hin
      have b0 := H2.out.2.2.me.cell (i := 0) rfl
      have ltb := H2.out.2.2.me.lt
      by_cases h5 : 500 ≤ n
      · go_wp2
        refine NoX.normal ?_
        go_wp2
        go_ret
        exact .inr (.inr (.inl ⟨HC.out, HI.out, by rw [HN.out]; exact h5, rfl, H2.out.1⟩))
      · have x0 := H2.out.2.1.cell (i := 0) rfl
        have x1 := H2.out.2.1.cell (i := 1) rfl
        have x2 := H2.out.2.1.cell (i := 2) rfl
        have x3 := H2.out.2.1.cell (i := 3) rfl
        have x4 := H2.out.2.1.cell (i := 4) rfl
        have ltx := H2.out.2.1.lt
        go_wp2
        refine NoX.normal ?_
        go_wp2
        refine wp_region_text 7 [6] [0, 1, 2, 3] [4] (fun w' => w'.cell? ⟨b, 0, none⟩ = some (.slice A n c)) (by kernel_rfl) (by kernel_rfl) (by go_simp) ?_
        simp only [List.take_succ_cons, List.take_zero, List.drop_succ_cons, List.drop_zero]
        repeat (first | ((refine wpText_h rfl rfl ?_; apply Exists.intro; refine ⟨?_, ?_⟩; next => (go_simp; (try (go_bits; go_simp)); (first | done | with_reducible rfl | (rw [if_neg (by omega)]; (try (go_bits; go_simp)); (first | done | with_reducible rfl)) | (rw [if_pos (by omega)]; (try (go_bits; go_simp)); (first | done | with_reducible rfl))))); (try simp only [Act.put, List.setIfInBounds_toArray, List.set_cons_zero, List.set_cons_succ])) | ((refine wpText_p rfl rfl ?_; apply Exists.intro; refine ⟨?_, ?_⟩; next => (intro w'; go_simp; (try (go_bits; go_simp)); (first | done | with_reducible rfl | (rw [if_neg (by omega)]; (try (go_bits; go_simp)); (first | done | with_reducible rfl)) | (rw [if_pos (by omega)]; (try (go_bits; go_simp)); (first | done | with_reducible rfl))))); (try simp only [Act.put, List.setIfInBounds_toArray, List.set_cons_zero, List.set_cons_succ])) | ((refine wpText_y rfl rfl ?_; apply Exists.intro; refine ⟨?_, ?_⟩; next => (intro w' hS; (first | obtain ⟨_, rfl⟩ := hS | skip); go_simp; (try (go_bits; go_simp)); (first | done | with_reducible rfl | (rw [if_neg (by omega)]; (try (go_bits; go_simp)); (first | done | with_reducible rfl)) | (rw [if_pos (by omega)]; (try (go_bits; go_simp)); (first | done | with_reducible rfl))))); (try simp only [Act.put, List.setIfInBounds_toArray, List.set_cons_zero, List.set_cons_succ])) | (refine wpText_skip (by first | exact .inl rfl | exact .inr (.inl rfl) | exact .inr (.inr rfl)) rfl ?_; (try simp only [Act.put, List.setIfInBounds_toArray, List.set_cons_zero, List.set_cons_succ])))
        refine wpText_e rfl rfl (fun K hK => ?_)
        go_wp2
        refine hK _ _ (by go_simp) ?_
        clear hK K
        try simp only [Act.put, List.setIfInBounds_toArray, List.set_cons_zero, List.set_cons_succ]
        repeat (first | ((refine wpText_h rfl rfl ?_; apply Exists.intro; refine ⟨?_, ?_⟩; next => (go_simp; (try (go_bits; go_simp)); (first | done | with_reducible rfl | (rw [if_neg (by omega)]; (try (go_bits; go_simp)); (first | done | with_reducible rfl)) | (rw [if_pos (by omega)]; (try (go_bits; go_simp)); (first | done | with_reducible rfl))))); (try simp only [Act.put, List.setIfInBounds_toArray, List.set_cons_zero, List.set_cons_succ])) | ((refine wpText_p rfl rfl ?_; apply Exists.intro; refine ⟨?_, ?_⟩; next => (intro w'; go_simp; (try (go_bits; go_simp)); (first | done | with_reducible rfl | (rw [if_neg (by omega)]; (try (go_bits; go_simp)); (first | done | with_reducible rfl)) | (rw [if_pos (by omega)]; (try (go_bits; go_simp)); (first | done | with_reducible rfl))))); (try simp only [Act.put, List.setIfInBounds_toArray, List.set_cons_zero, List.set_cons_succ])) | ((refine wpText_y rfl rfl ?_; apply Exists.intro; refine ⟨?_, ?_⟩; next => (intro w' hS; (first | obtain ⟨_, rfl⟩ := hS | skip); go_simp; (try (go_bits; go_simp)); (first | done | with_reducible rfl | (rw [if_neg (by omega)]; (try (go_bits; go_simp)); (first | done | with_reducible rfl)) | (rw [if_pos (by omega)]; (try (go_bits; go_simp)); (first | done | with_reducible rfl))))); (try simp only [Act.put, List.setIfInBounds_toArray, List.set_cons_zero, List.set_cons_succ])) | (refine wpText_skip (by first | exact .inl rfl | exact .inr (.inl rfl) | exact .inr (.inr rfl)) rfl ?_; (try simp only [Act.put, List.setIfInBounds_toArray, List.set_cons_zero, List.set_cons_succ])))
        refine wpText_nil ?_
        obtain ⟨i0, hi0, hz0, hs0, hb0⟩ := info_parts rt_info
        have HROW := hide (show w2.ownsRow 0 63 5 (.slice A n c) n (rs.flatMap Rt.cells) by have h := H2.out.2.2.row; rw [HN.out] at h; exact h)
        go_wp2_with (at_builtin; refine wpList_append_row _ rfl (.tmp 32) (.tmp 34) 58 rfl 63 i0 (.agg #[.int .u32 0, I64 0, .int .u32 0, I64 0, I64 0]) 5 40 Try.underlying58 hi0 hz0 hs0 hb0 rfl (by decide) (.slice A n c) n (rs.flatMap Rt.cells) rfl ((HROW.out.alloc _).drew) ⟨w2.heap.size, 0, none⟩ 1 1 x.cells rfl rfl ?_ (by simp [Rt.cells, Value.oneCell']) (by unfold maxLen; omega) (by omega) ?_)
        · intro j u hu
          rw [show (⟨w2.heap.size, 0, none⟩ : Addr).add j = ⟨w2.heap.size, j, none⟩ by unfold Addr.add; split <;> simp_all]
          exact ((Blk.newA (c := #[.int .u32 x.addr, I64 x.bits, .int .u32 x.gw, I64 x.ifc, I64 x.met]) rfl).drew).cell hu
        intro v3 w3 hown3 ho3 hbk3
        obtain ⟨A3, c3, rfl⟩ := own_shape hown3
        have hnb := own_ne_blk H2.out.2.2.row H2.out.2.2.me (by decide)
        have me3 : Blk w3 b 135 [.slice A n c] := ho3.blk ((H2.out.2.2.me.alloc _).drew) (by simpa [Option.mem_toList] using hnb)
        have e5 := me3.frozen 0
        have hl3 := me3.lt
        have hon3 := own_ne_blk hown3 me3 (by decide)
        have HM := hide me3
        have HO := hide hown3
        have HS := hide (show Only (b :: (Value.slice A n c).ownBlock.toList) w w3 from (((H2.out.1.alloc (.cells #[.int .u32 x.addr, I64 x.bits, .int .u32 x.gw, I64 x.ifc, I64 x.met] 63)).drew).mono (fun k hk _ => absurd hk (by simp))).trans' ho3 (fun i hi _ => List.mem_cons_of_mem _ hi))
        have HG := hide (show (Value.slice A3 (n + 1) c3).ownBlock = (Value.slice A n c).ownBlock ∨ ∃ g, (Value.slice A3 (n + 1) c3).ownBlock = some g ∧ w.heap.size ≤ g from hbk3.imp id fun h => ⟨_, h, by have := H2.out.1.size; omega⟩)
        have d5 := me3.cell (i := 0) rfl
        clear me3 hown3 ho3 hbk3 hnb x0 x1 x2 x3 x4 ltx b0
        go_wp2
        refine NoX.normal ?_
        go_wp2
        go_ret
        refine .inr (.inr (.inr ⟨HC.out, HI.out, by rw [HN.out]; omega, rfl, _, ⟨HM.out.set 0 _, ?_⟩, HS.out.set (p := ⟨b, 0, none⟩) (.inl (by simp)) _, HG.out⟩))
        rw [List.length_append, HN.out, List.flatMap_append]
        exact own_setCell (by simpa using HO.out) hon3 _
  · have HC := hide hc
    have hc' : (x.code != 0) = true := by simp [hc]
    clear hc
    go_wp2
    go_ret
    exact .inl ⟨rfl, HC.out, H1.out.1⟩


/-- Is the route c better than b? -/
def better (c b : Rt) : Prop := b.bits < c.bits ∨ (b.bits = c.bits ∧ c.met < b.met)
instance (c b : Rt) : Decidable (better c b) := by unfold better; infer_instance
def pickR (a : Int) (o : Option Rt) (x : Rt) : Option Rt := if pre a x.bits = x.addr then (match o with | none => some x | some y => if better x y then some x else some y) else o
/-- The best route to an address. -/
def bestR (rs : List Rt) (a : Int) : Option Rt := rs.foldl (pickR a) none
theorem bestR_snoc (rs : List Rt) (a : Int) (x : Rt) : bestR (rs ++ [x]) a = pickR a (bestR rs a) x := by simp [bestR]
theorem or_better (x y : Rt) : orI (cmpI y.bits x.bits) (cmpI x.met y.met) < 0 ↔ better x y := by
  unfold orI cmpI better
  split <;> (try split) <;> (try split) <;> (try split) <;> omega
def Rt.zero : Rt := ⟨0, 0, 0, 0, 0⟩
/-- What Lookup keeps in its variable. -/
def At (rs : List Rt) (o : Option Rt) (i : Int) : Prop := (o = none ∧ i = -1) ∨ ∃ (j : Nat) (y : Rt), o = some y ∧ i = (j : Int) ∧ rs[j]? = some y
def LookS (rs : List Rt) (a : Int) (w : World) (e : Ending) (w' : World) : Prop := Only [] w w' ∧ ((bestR rs a = none ∧ e = .returned (.tuple #[Rt.zero.V, I64 39])) ∨ ∃ y, bestR rs a = some y ∧ e = .returned (.tuple #[y.V, I64 0]))

theorem load_rt {w : World} {b : Nat} (r : Rt) (h : Blk w b 63 r.cells) : (loadVar 63 ⟨b, 0, none⟩).run Try.prog w = .ok r.V w :=
  run_loadVar_cells w b 0 _ r.cells (d := _) (fun j v hv => by rw [Nat.zero_add]; exact h.cell hv) Try.underlying63 rfl (by unfold Rt.cells; kernel_rfl)

set_option maxRecDepth 100000 in
set_option maxHeartbeats 16000000 in
theorem lookup_ok (b : Nat) (A : Option Addr) (c : Nat) (rs : List Rt) (n : Nat) (a : Int) (w : World) (hn : rs.length = n) (hm : n ≤ 1000) (ha : 0 ≤ a ∧ a < 4294967296) (hv : ∀ x ∈ rs, 0 ≤ x.bits ∧ x.bits ≤ 32) (hr : RoutesAt w b (.slice A n c) rs) :
    Calls Try.prog 33 #[.pointer (some ⟨b, 0, none⟩), .int .u32 a] w fun e w' => LookS rs a w e w' := by
  have hz : ∀ w : World, (Instr.build 63 #[]).run Try.prog w = .ok (.agg #[.int .u32 0, I64 0, .int .u32 0, I64 0, I64 0]) w := fun _ => by kernel_rfl
  have ho : Only [] w (w.alloc (.cells #[.int .u32 0, I64 0, .int .u32 0, I64 0, I64 0] 63)) := (Only.refl [] w).alloc _
  have hx : Blk (w.alloc (.cells #[.int .u32 0, I64 0, .int .u32 0, I64 0, I64 0] 63)) w.heap.size 63 [.int .u32 0, I64 0, .int .u32 0, I64 0, I64 0] := Blk.newA rfl
  have H0 := hide (show _ ∧ _ ∧ _ from ⟨ho, hx, hr.only ho (by simp) (by simp)⟩)
  have b0 := hr.me.cell (i := 0) rfl
  have ltb := hr.me.lt
  have HN := hide hn
  have HV := hide hv
  have HA := hide ha
  clear ho hx hr hn hv ha
  go_enter Try.func33, Try.ntmps33
  go_wp2
  go_loopw [6, 17] (fun bi i wr => ∃ (k : Nat) (z : Int), k ≤ n ∧ i = .int .i64 k ∧ bi = I64 z ∧ Hid (At rs (bestR (rs.take k) a) z) ∧ Hid (Only [] w wr ∧ Blk wr w.heap.size 63 [.int .u32 0, I64 0, .int .u32 0, I64 0, I64 0] ∧ RoutesAt wr b (.slice A n c) rs)) (fun _ i _ => n - (intOf i).toNat)
  case atStart => exact ⟨0, -1, Nat.zero_le _, rfl, rfl, hide (.inl ⟨rfl, rfl⟩), H0⟩
  case round =>
    obtain ⟨k, z, hk, rfl, rfl, HZ, HW⟩ := hrel
    rcases Nat.lt_or_ge k n with hlt | hge
    · obtain ⟨y, hy⟩ : ∃ y, rs[k]? = some y := ⟨_, List.getElem?_eq_getElem (by rw [HN.out]; exact hlt)⟩
      have HST := hide (show bestR (rs.take (k + 1)) a = pickR a (bestR (rs.take k) a) y by rw [List.take_add_one, hy]; exact bestR_snoc _ _ _)
      obtain ⟨g, o, rfl, hc⟩ := HW.out.2.2.rts k y hy
      have hvy := HV.out y (List.mem_of_getElem? hy)
      have HY := hide hy
      have y0 := hc 0 _ rfl
      rw [Nat.add_zero] at y0
      have y1 := hc 1 _ rfl
      have y2 := hc 2 _ rfl
      have y3 := hc 3 _ rfl
      have y4 := hc 4 _ rfl
      clear hy hc b0 ltb hz
      have HX := hide (show Only [] w (wr.alloc (.cells #[.int .u32 y.addr, I64 y.bits, .int .u32 y.gw, I64 y.ifc, I64 y.met] 63)) ∧ Blk (wr.alloc (.cells #[.int .u32 y.addr, I64 y.bits, .int .u32 y.gw, I64 y.ifc, I64 y.met] 63)) w.heap.size 63 [.int .u32 0, I64 0, .int .u32 0, I64 0, I64 0] ∧ RoutesAt (wr.alloc (.cells #[.int .u32 y.addr, I64 y.bits, .int .u32 y.gw, I64 y.ifc, I64 y.met] 63)) b (.slice (some ⟨g, o, none⟩) n c) rs ∧ Blk (wr.alloc (.cells #[.int .u32 y.addr, I64 y.bits, .int .u32 y.gw, I64 y.ifc, I64 y.met] 63)) wr.heap.size 63 [.int .u32 y.addr, I64 y.bits, .int .u32 y.gw, I64 y.ifc, I64 y.met] from ⟨HW.out.1.alloc _, HW.out.2.1.alloc _, HW.out.2.2.only ((Only.refl [] wr).alloc _) (by simp) (by simp), Blk.newA rfl⟩)
      go_wp2_with fail
      have e0 := HX.out.2.2.2.cell (i := 0) rfl
      have e1 := HX.out.2.2.2.cell (i := 1) rfl
      have ltx := HX.out.2.2.2.lt
      refine wp_region_text0 10 [3] [4, 6, 8] [5, 7] (fun w' => w'.cell? ⟨wr.heap.size, 0, none⟩ = some (.int .u32 y.addr) ∧ w'.cell? ⟨wr.heap.size, 1, none⟩ = some (I64 y.bits)) (by kernel_rfl) (by kernel_rfl) ⟨e0, e1⟩ ?_
      repeat (first | ((refine wpText_h rfl rfl ?_; apply Exists.intro; refine ⟨?_, ?_⟩; next => (go_simp; (try (go_bits; go_simp)); (first | done | with_reducible rfl | (rw [if_neg (by omega)]; (try (go_bits; go_simp)); (first | done | with_reducible rfl)) | (rw [if_pos (by omega)]; (try (go_bits; go_simp)); (first | done | with_reducible rfl))))); (try simp only [Act.put, List.setIfInBounds_toArray, List.set_cons_zero, List.set_cons_succ])) | ((refine wpText_p rfl rfl ?_; apply Exists.intro; refine ⟨?_, ?_⟩; next => (intro w'; go_simp; (try (go_bits; go_simp)); (first | done | with_reducible rfl | (rw [if_neg (by omega)]; (try (go_bits; go_simp)); (first | done | with_reducible rfl)) | (rw [if_pos (by omega)]; (try (go_bits; go_simp)); (first | done | with_reducible rfl))))); (try simp only [Act.put, List.setIfInBounds_toArray, List.set_cons_zero, List.set_cons_succ])) | ((refine wpText_y rfl rfl ?_; apply Exists.intro; refine ⟨?_, ?_⟩; next => (intro w' hS; (first | obtain ⟨_, rfl⟩ := hS | skip); go_simp; (try (go_bits; go_simp)); (first | done | with_reducible rfl | (rw [if_neg (by omega)]; (try (go_bits; go_simp)); (first | done | with_reducible rfl)) | (rw [if_pos (by omega)]; (try (go_bits; go_simp)); (first | done | with_reducible rfl))))); (try simp only [Act.put, List.setIfInBounds_toArray, List.set_cons_zero, List.set_cons_succ])) | (refine wpText_skip (by first | exact .inl rfl | exact .inr (.inl rfl) | exact .inr (.inr rfl)) rfl ?_; (try simp only [Act.put, List.setIfInBounds_toArray, List.set_cons_zero, List.set_cons_succ])))
      refine wpText_e rfl rfl (fun K hK => ?_)
      go_wp2_with fail
      refine (first_ok a y.bits _ HA.out.1 HA.out.2 (by omega) (by omega)).mono ?_
      rintro e w1 ⟨rfl, ho⟩
      have hb1 := ho.blk HX.out.2.2.2.drew (by simp)
      refine hK _ _ ⟨hb1.cell rfl, hb1.cell rfl⟩ ?_
      clear hK K
      have H1 := hide (show _ ∧ _ ∧ _ ∧ _ from ⟨Only.trans HX.out.1.drew ho, ho.blk HX.out.2.1.drew (by simp), HX.out.2.2.1.only (Only.trans ((Only.refl [] _).drew) ho) (by simp) (by simp), hb1⟩)
      clear ho e0 e1 ltx HX y0 y1 y2 y3 y4 H0 hb1
      by_cases hp : pre a y.bits = y.addr
      · have HP := hide hp
        have HE : ∀ W : World, (binOp .neq 138 (.agg #[.int .u32 (pre a y.bits), I64 y.bits]) (.agg #[.int .u32 y.addr, I64 y.bits])).run Try.prog W = .ok (.bool false) W := fun W => by
          rw [eq_pre]; simp [hp]
        clear hp
        repeat (first | ((refine wpText_h rfl rfl ?_; apply Exists.intro; refine ⟨?_, ?_⟩; next => (go_simp; (try (go_bits; go_simp)); (first | done | with_reducible rfl | (rw [if_neg (by omega)]; (try (go_bits; go_simp)); (first | done | with_reducible rfl)) | (rw [if_pos (by omega)]; (try (go_bits; go_simp)); (first | done | with_reducible rfl))))); (try simp only [Act.put, List.setIfInBounds_toArray, List.set_cons_zero, List.set_cons_succ])) | ((refine wpText_p rfl rfl ?_; apply Exists.intro; refine ⟨?_, ?_⟩; next => (intro w'; go_simp; (try (go_bits; go_simp)); (first | done | with_reducible rfl | (rw [if_neg (by omega)]; (try (go_bits; go_simp)); (first | done | with_reducible rfl)) | (rw [if_pos (by omega)]; (try (go_bits; go_simp)); (first | done | with_reducible rfl))))); (try simp only [Act.put, List.setIfInBounds_toArray, List.set_cons_zero, List.set_cons_succ])) | ((refine wpText_y rfl rfl ?_; apply Exists.intro; refine ⟨?_, ?_⟩; next => (intro w' hS; (first | obtain ⟨_, rfl⟩ := hS | skip); go_simp; (try (go_bits; go_simp)); (first | done | with_reducible rfl | (rw [if_neg (by omega)]; (try (go_bits; go_simp)); (first | done | with_reducible rfl)) | (rw [if_pos (by omega)]; (try (go_bits; go_simp)); (first | done | with_reducible rfl))))); (try simp only [Act.put, List.setIfInBounds_toArray, List.set_cons_zero, List.set_cons_succ])) | (refine wpText_skip (by first | exact .inl rfl | exact .inr (.inl rfl) | exact .inr (.inr rfl)) rfl ?_; (try simp only [Act.put, List.setIfInBounds_toArray, List.set_cons_zero, List.set_cons_succ])))
        refine wpText_nil ?_
        clear HE
        rcases HZ.out with ⟨hnn, rfl⟩ | ⟨j, q, hq, rfl, hj⟩
        · have HB := hide (show bestR (rs.take (k + 1)) a = some y by rw [HST.out, hnn]; unfold pickR; rw [if_pos HP.out])
          clear hnn
          go_wp2
          refine wp_region_text 24 [13] [0, 1, 2, 3, 4, 5, 7, 8, 9, 11, 14, 16, 17, 18, 20, 21, 22] [6, 10, 12, 15, 19, 23] (fun _ => True) (by kernel_rfl) (by kernel_rfl) trivial ?_
          simp only [List.take_succ_cons, List.take_zero, List.drop_succ_cons, List.drop_zero]
          repeat (first | ((refine wpText_h rfl rfl ?_; apply Exists.intro; refine ⟨?_, ?_⟩; next => (go_simp; (try (go_bits; go_simp)); (first | done | with_reducible rfl | (rw [if_neg (by omega)]; (try (go_bits; go_simp)); (first | done | with_reducible rfl)) | (rw [if_pos (by omega)]; (try (go_bits; go_simp)); (first | done | with_reducible rfl))))); (try simp only [Act.put, List.setIfInBounds_toArray, List.set_cons_zero, List.set_cons_succ])) | ((refine wpText_p rfl rfl ?_; apply Exists.intro; refine ⟨?_, ?_⟩; next => (intro w'; go_simp; (try (go_bits; go_simp)); (first | done | with_reducible rfl | (rw [if_neg (by omega)]; (try (go_bits; go_simp)); (first | done | with_reducible rfl)) | (rw [if_pos (by omega)]; (try (go_bits; go_simp)); (first | done | with_reducible rfl))))); (try simp only [Act.put, List.setIfInBounds_toArray, List.set_cons_zero, List.set_cons_succ])) | ((refine wpText_y rfl rfl ?_; apply Exists.intro; refine ⟨?_, ?_⟩; next => (intro w' hS; (first | obtain ⟨_, rfl⟩ := hS | skip); go_simp; (try (go_bits; go_simp)); (first | done | with_reducible rfl | (rw [if_neg (by omega)]; (try (go_bits; go_simp)); (first | done | with_reducible rfl)) | (rw [if_pos (by omega)]; (try (go_bits; go_simp)); (first | done | with_reducible rfl))))); (try simp only [Act.put, List.setIfInBounds_toArray, List.set_cons_zero, List.set_cons_succ])) | (refine wpText_skip (by first | exact .inl rfl | exact .inr (.inl rfl) | exact .inr (.inr rfl)) rfl ?_; (try simp only [Act.put, List.setIfInBounds_toArray, List.set_cons_zero, List.set_cons_succ])))
          refine wpText_eskip rfl rfl trivial ?_
          try simp only [Act.put, List.setIfInBounds_toArray, List.set_cons_zero, List.set_cons_succ]
          repeat (first | ((refine wpText_h rfl rfl ?_; apply Exists.intro; refine ⟨?_, ?_⟩; next => (go_simp; (try (go_bits; go_simp)); (first | done | with_reducible rfl | (rw [if_neg (by omega)]; (try (go_bits; go_simp)); (first | done | with_reducible rfl)) | (rw [if_pos (by omega)]; (try (go_bits; go_simp)); (first | done | with_reducible rfl))))); (try simp only [Act.put, List.setIfInBounds_toArray, List.set_cons_zero, List.set_cons_succ])) | ((refine wpText_p rfl rfl ?_; apply Exists.intro; refine ⟨?_, ?_⟩; next => (intro w'; go_simp; (try (go_bits; go_simp)); (first | done | with_reducible rfl | (rw [if_neg (by omega)]; (try (go_bits; go_simp)); (first | done | with_reducible rfl)) | (rw [if_pos (by omega)]; (try (go_bits; go_simp)); (first | done | with_reducible rfl))))); (try simp only [Act.put, List.setIfInBounds_toArray, List.set_cons_zero, List.set_cons_succ])) | ((refine wpText_y rfl rfl ?_; apply Exists.intro; refine ⟨?_, ?_⟩; next => (intro w' hS; (first | obtain ⟨_, rfl⟩ := hS | skip); go_simp; (try (go_bits; go_simp)); (first | done | with_reducible rfl | (rw [if_neg (by omega)]; (try (go_bits; go_simp)); (first | done | with_reducible rfl)) | (rw [if_pos (by omega)]; (try (go_bits; go_simp)); (first | done | with_reducible rfl))))); (try simp only [Act.put, List.setIfInBounds_toArray, List.set_cons_zero, List.set_cons_succ])) | (refine wpText_skip (by first | exact .inl rfl | exact .inr (.inl rfl) | exact .inr (.inr rfl)) rfl ?_; (try simp only [Act.put, List.setIfInBounds_toArray, List.set_cons_zero, List.set_cons_succ])))
          refine wpText_nil ?_
          go_wp2
          refine NoX.normal ?_
          go_wp2
          go_roundw
          case rel => exact ⟨k + 1, k, by omega, by go_num, rfl, by rw [HB.out]; exact hide (.inr ⟨k, y, rfl, rfl, HY.out⟩), hide ⟨H1.out.1.drew, H1.out.2.1, H1.out.2.2.1.only (Only.refl [] _).drew (by simp) (by simp)⟩⟩
          case measure => simp [intOf]; omega
        · have HQ := hide hq
          have HJ := hide hj
          obtain ⟨g', o', hgo, hc⟩ := H1.out.2.2.1.rts j q hj
          injection hgo with hgo
          injection hgo with hg' ho'
          subst hg' ho'
          have hjn : j < n := by have := (List.getElem?_eq_some_iff.1 hj).1; have := HN.out; omega
          have q1 := hc 1 _ rfl
          have q4 := hc 4 _ rfl
          have b0 := H1.out.2.2.1.me.cell (i := 0) rfl
          have ltb := H1.out.2.2.1.me.lt
          have f1 := H1.out.2.2.2.cell (i := 1) rfl
          have f4 := H1.out.2.2.2.cell (i := 4) rfl
          have ltx := H1.out.2.2.2.lt
          clear hq hj hc
          go_wp2
          refine wp_region_text 24 [13] [0, 1, 2, 3, 4, 5, 7, 8, 9, 11, 14, 16, 17, 18, 20, 21, 22] [6, 10, 12, 15, 19, 23] (fun w' => w'.cell? ⟨b, 0, none⟩ = some (.slice (some ⟨g, o, none⟩) n c) ∧ w'.cell? ⟨g, o + j * 5 + 1, none⟩ = some (I64 q.bits) ∧ w'.cell? ⟨g, o + j * 5 + 4, none⟩ = some (I64 q.met) ∧ w'.cell? ⟨wr.heap.size, 1, none⟩ = some (I64 y.bits) ∧ w'.cell? ⟨wr.heap.size, 4, none⟩ = some (I64 y.met)) (by kernel_rfl) (by kernel_rfl) ⟨b0, q1, q4, f1, f4⟩ ?_
          simp only [List.take_succ_cons, List.take_zero, List.drop_succ_cons, List.drop_zero]
          repeat (first | ((refine wpText_h rfl rfl ?_; apply Exists.intro; refine ⟨?_, ?_⟩; next => (go_simp; (try (go_bits; go_simp)); (first | done | with_reducible rfl | (rw [if_neg (by omega)]; (try (go_bits; go_simp)); (first | done | with_reducible rfl)) | (rw [if_pos (by omega)]; (try (go_bits; go_simp)); (first | done | with_reducible rfl))))); (try simp only [Act.put, List.setIfInBounds_toArray, List.set_cons_zero, List.set_cons_succ])) | ((refine wpText_p rfl rfl ?_; apply Exists.intro; refine ⟨?_, ?_⟩; next => (intro w'; go_simp; (try (go_bits; go_simp)); (first | done | with_reducible rfl | (rw [if_neg (by omega)]; (try (go_bits; go_simp)); (first | done | with_reducible rfl)) | (rw [if_pos (by omega)]; (try (go_bits; go_simp)); (first | done | with_reducible rfl))))); (try simp only [Act.put, List.setIfInBounds_toArray, List.set_cons_zero, List.set_cons_succ])) | ((refine wpText_y rfl rfl ?_; apply Exists.intro; refine ⟨?_, ?_⟩; next => (intro w' hS; (first | obtain ⟨_, rfl⟩ := hS | skip); go_simp; (try (go_bits; go_simp)); (first | done | with_reducible rfl | (rw [if_neg (by omega)]; (try (go_bits; go_simp)); (first | done | with_reducible rfl)) | (rw [if_pos (by omega)]; (try (go_bits; go_simp)); (first | done | with_reducible rfl))))); (try simp only [Act.put, List.setIfInBounds_toArray, List.set_cons_zero, List.set_cons_succ])) | (refine wpText_skip (by first | exact .inl rfl | exact .inr (.inl rfl) | exact .inr (.inr rfl)) rfl ?_; (try simp only [Act.put, List.setIfInBounds_toArray, List.set_cons_zero, List.set_cons_succ])))
          refine wpText_e rfl rfl (fun K hK => ?_)
          go_wp2_with fail
          refine (cmp_ok q.bits y.bits _).mono ?_
          rintro e w2 ⟨rfl, rfl⟩
          refine hK _ _ ⟨b0, q1, q4, f1, f4⟩ ?_
          clear hK K
          repeat (first | ((refine wpText_h rfl rfl ?_; apply Exists.intro; refine ⟨?_, ?_⟩; next => (go_simp; (try (go_bits; go_simp)); (first | done | with_reducible rfl | (rw [if_neg (by omega)]; (try (go_bits; go_simp)); (first | done | with_reducible rfl)) | (rw [if_pos (by omega)]; (try (go_bits; go_simp)); (first | done | with_reducible rfl))))); (try simp only [Act.put, List.setIfInBounds_toArray, List.set_cons_zero, List.set_cons_succ])) | ((refine wpText_p rfl rfl ?_; apply Exists.intro; refine ⟨?_, ?_⟩; next => (intro w'; go_simp; (try (go_bits; go_simp)); (first | done | with_reducible rfl | (rw [if_neg (by omega)]; (try (go_bits; go_simp)); (first | done | with_reducible rfl)) | (rw [if_pos (by omega)]; (try (go_bits; go_simp)); (first | done | with_reducible rfl))))); (try simp only [Act.put, List.setIfInBounds_toArray, List.set_cons_zero, List.set_cons_succ])) | ((refine wpText_y rfl rfl ?_; apply Exists.intro; refine ⟨?_, ?_⟩; next => (intro w' hS; (first | obtain ⟨_, rfl⟩ := hS | skip); go_simp; (try (go_bits; go_simp)); (first | done | with_reducible rfl | (rw [if_neg (by omega)]; (try (go_bits; go_simp)); (first | done | with_reducible rfl)) | (rw [if_pos (by omega)]; (try (go_bits; go_simp)); (first | done | with_reducible rfl))))); (try simp only [Act.put, List.setIfInBounds_toArray, List.set_cons_zero, List.set_cons_succ])) | (refine wpText_skip (by first | exact .inl rfl | exact .inr (.inl rfl) | exact .inr (.inr rfl)) rfl ?_; (try simp only [Act.put, List.setIfInBounds_toArray, List.set_cons_zero, List.set_cons_succ])))
          refine wpText_nil ?_
          go_wp2_with fail
          refine (cmp_ok y.met q.met _).mono ?_
          rintro e w2 ⟨rfl, rfl⟩
          go_wp2_with fail
          refine (or_ok w1.heap.size 0 2 (cmpI q.bits y.bits) (cmpI y.met q.met) _ (by go_simp) (by go_simp)).mono ?_
          rintro e w2 ⟨rfl, rfl⟩
          have HOB := hide (or_better y q)
          by_cases hbt : better y q
          · have h0 : orI (cmpI q.bits y.bits) (cmpI y.met q.met) < 0 := HOB.out.2 hbt
            have HB := hide (show bestR (rs.take (k + 1)) a = some y by rw [HST.out, HQ.out]; unfold pickR; rw [if_pos HP.out]; simp only; rw [if_pos hbt])
            clear hbt
            go_wp2
            refine NoX.normal ?_
            go_wp2
            go_roundw
            case rel => exact ⟨k + 1, k, by omega, by go_num, rfl, by rw [HB.out]; exact hide (.inr ⟨k, y, rfl, rfl, HY.out⟩), hide ⟨(H1.out.1.drew).alloc _, (H1.out.2.1.drew).alloc _, H1.out.2.2.1.only ((Only.refl [] _).drew.alloc _) (by simp) (by simp)⟩⟩
            case measure => simp [intOf]; omega
          · have h0 : ¬ orI (cmpI q.bits y.bits) (cmpI y.met q.met) < 0 := fun h => hbt (HOB.out.1 h)
            have HB := hide (show bestR (rs.take (k + 1)) a = some q by rw [HST.out, HQ.out]; unfold pickR; rw [if_pos HP.out]; simp only; rw [if_neg hbt])
            clear hbt
            go_wp2
            refine NoX.normal ?_
            go_wp2
            go_roundw
            case rel => exact ⟨k + 1, j, by omega, by go_num, rfl, by rw [HB.out]; exact hide (.inr ⟨j, q, rfl, rfl, HJ.out⟩), hide ⟨(H1.out.1.drew).alloc _, (H1.out.2.1.drew).alloc _, H1.out.2.2.1.only ((Only.refl [] _).drew.alloc _) (by simp) (by simp)⟩⟩
            case measure => simp [intOf]; omega
      · have HP := hide hp
        have HE : ∀ W : World, (binOp .neq 138 (.agg #[.int .u32 (pre a y.bits), I64 y.bits]) (.agg #[.int .u32 y.addr, I64 y.bits])).run Try.prog W = .ok (.bool true) W := fun W => by
          rw [eq_pre]; simp [hp]
        clear hp
        repeat (first | ((refine wpText_h rfl rfl ?_; apply Exists.intro; refine ⟨?_, ?_⟩; next => (go_simp; (try (go_bits; go_simp)); (first | done | with_reducible rfl | (rw [if_neg (by omega)]; (try (go_bits; go_simp)); (first | done | with_reducible rfl)) | (rw [if_pos (by omega)]; (try (go_bits; go_simp)); (first | done | with_reducible rfl))))); (try simp only [Act.put, List.setIfInBounds_toArray, List.set_cons_zero, List.set_cons_succ])) | ((refine wpText_p rfl rfl ?_; apply Exists.intro; refine ⟨?_, ?_⟩; next => (intro w'; go_simp; (try (go_bits; go_simp)); (first | done | with_reducible rfl | (rw [if_neg (by omega)]; (try (go_bits; go_simp)); (first | done | with_reducible rfl)) | (rw [if_pos (by omega)]; (try (go_bits; go_simp)); (first | done | with_reducible rfl))))); (try simp only [Act.put, List.setIfInBounds_toArray, List.set_cons_zero, List.set_cons_succ])) | ((refine wpText_y rfl rfl ?_; apply Exists.intro; refine ⟨?_, ?_⟩; next => (intro w' hS; (first | obtain ⟨_, rfl⟩ := hS | skip); go_simp; (try (go_bits; go_simp)); (first | done | with_reducible rfl | (rw [if_neg (by omega)]; (try (go_bits; go_simp)); (first | done | with_reducible rfl)) | (rw [if_pos (by omega)]; (try (go_bits; go_simp)); (first | done | with_reducible rfl))))); (try simp only [Act.put, List.setIfInBounds_toArray, List.set_cons_zero, List.set_cons_succ])) | (refine wpText_skip (by first | exact .inl rfl | exact .inr (.inl rfl) | exact .inr (.inr rfl)) rfl ?_; (try simp only [Act.put, List.setIfInBounds_toArray, List.set_cons_zero, List.set_cons_succ])))
        refine wpText_nil ?_
        clear HE
        have HB := hide (show bestR (rs.take (k + 1)) a = bestR (rs.take k) a by rw [HST.out]; unfold pickR; rw [if_neg HP.out])
        go_wp2
        go_roundw
        case rel => exact ⟨k + 1, z, by omega, by go_num, rfl, by rw [HB.out]; exact HZ, hide ⟨H1.out.1, H1.out.2.1, H1.out.2.2.1⟩⟩
        case measure => simp [intOf]; omega
    · obtain rfl : k = n := by omega
      have HT := hide (show rs.take k = rs by rw [List.take_of_length_le]; rw [HN.out]; exact Nat.le_refl _)
      rw [HT.out] at HZ
      rcases HZ.out with ⟨hnn, rfl⟩ | ⟨j, q, hq, rfl, hj⟩
      · have HQ := hide hnn
        clear hnn b0 ltb
        go_wp2_with (refine wpList_store_cells rfl 63 (.tmp 4) (.tmp 65) rfl _ _ rfl [.int .u32 0, I64 0, .int .u32 0, I64 0, I64 0] rfl 63 [.int .u32 0, I64 0, .int .u32 0, I64 0, I64 0] HW.out.2.1 (by decide) (by kernel_rfl) (by simp [Value.oneCell']) ?_; intro v1 hw3)
        have ho2 : Only [] w v1 := HW.out.1.trans' hw3.2.1 (by intro i hi; simp at hi; omega)
        refine bodyPost_ret (results_cell_tmp rfl _ _ _ rfl (load_rt Rt.zero (Blk.to hw3.1 (by rfl)))) rfl ?_
        exact ⟨ho2, .inl ⟨HQ.out, rfl⟩⟩
      · have HQ := hide hq
        obtain ⟨g, o, rfl, hc⟩ := HW.out.2.2.rts j q hj
        have q0 := hc 0 _ rfl
        rw [Nat.add_zero] at q0
        have q1 := hc 1 _ rfl
        have q2 := hc 2 _ rfl
        have q3 := hc 3 _ rfl
        have q4 := hc 4 _ rfl
        have hjn : j < k := by have := (List.getElem?_eq_some_iff.1 hj).1; have := HN.out; omega
        have b0 := HW.out.2.2.me.cell (i := 0) rfl
        have ltb := HW.out.2.2.me.lt
        clear hq hj hc
        go_wp2_with (refine wpList_store_cells rfl 63 (.tmp 4) (.tmp 72) rfl _ _ rfl q.cells rfl 63 [.int .u32 0, I64 0, .int .u32 0, I64 0, I64 0] HW.out.2.1 (by simp [Rt.cells]) (by kernel_rfl) (by simp [Rt.cells, Value.oneCell']) ?_; intro v1 hw3)
        have ho2 : Only [] w v1 := HW.out.1.trans' hw3.2.1 (by intro i hi; simp at hi; omega)
        refine bodyPost_ret (results_cell_tmp rfl _ _ _ rfl (load_rt q (Blk.to hw3.1 (by simp [Rt.cells])))) rfl ?_
        exact ⟨ho2, .inr ⟨q, HQ.out, rfl⟩⟩

end Go.Proofs.Ytlnejlhdkmneeaa
