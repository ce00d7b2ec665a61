/- Decode where it accepts. -/
import Derived.Test.YtlnejlhdkmneeaaRefA
import Derived.Test.YtlnejlhdkmneeaaWalkK
import Derived.Deep.RegionHeld3
import Derived.Deep.DeepCutAuto
namespace Go.Proofs.Ytlnejlhdkmneeaa
open Go.RowKit

theorem or32w {a : Nat} {b : Nat} (ha : a ≤ 16777215) (hb : b ≤ 255) : bits .or .u32 ((a : Int) * 256) (b : Int) = (a : Int) * 256 + (b : Int) := by
  have h := u32_or8 (b : Int) ((a : Int) * 256) (by omega) (by omega) (by omega) (by omega) (by omega)
  have hc : bits .or .u32 ((a : Int) * 256) (b : Int) = bits .or .u32 (b : Int) ((a : Int) * 256) := by
    show IntKind.u32.wrap ((BitVec.ofInt 32 ((a : Int) * 256) ||| BitVec.ofInt 32 (b : Int)).toNat : Int) = IntKind.u32.wrap ((BitVec.ofInt 32 (b : Int) ||| BitVec.ofInt 32 ((a : Int) * 256)).toNat : Int)
    rw [BitVec.or_comm]
  rw [hc, h]
  omega

set_option maxHeartbeats 2000000 in
theorem get4_ok (b o c x0 x1 x2 x3 : Nat) (w : World) (h0 : x0 ≤ 255) (h1 : x1 ≤ 255) (h2 : x2 ≤ 255) (h3 : x3 ≤ 255) (c0 : w.cell? ⟨b, o, none⟩ = some (.int .u8 (x0 : Int))) (c1 : w.cell? ⟨b, o + 1, none⟩ = some (.int .u8 (x1 : Int)))
    (c2 : w.cell? ⟨b, o + 2, none⟩ = some (.int .u8 (x2 : Int))) (c3 : w.cell? ⟨b, o + 3, none⟩ = some (.int .u8 (x3 : Int))) :
    Calls Try.prog 63 #[.slice (some ⟨b, o, none⟩) 4 c] w fun e w' => e = .returned (.int .u32 ((((x0 : Int) * 256 + (x1 : Int)) * 256 + (x2 : Int)) * 256 + (x3 : Int))) ∧ w' = w := by
  have k0 := or32w (a := 0) (b := x0) (by omega) h0
  have k1 := or32w (a := x0) (by omega) h1
  have k2 := or32w (a := x0 * 256 + x1) (b := x2) (by omega) h2
  have k3 := or32w (a := (x0 * 256 + x1) * 256 + x2) (b := x3) (by omega) h3
  have k4 : bits .or .u32 0 (x0 : Int) = (x0 : Int) := by simpa using k0
  have w1 : IntKind.u32.wrap ((x0 : Int) * 256) = (x0 : Int) * 256 := by rw [wrap32]; omega
  have w2 : IntKind.u32.wrap (((x0 : Int) * 256 + (x1 : Int)) * 256) = ((x0 : Int) * 256 + (x1 : Int)) * 256 := by rw [wrap32]; omega
  have w3 : IntKind.u32.wrap ((((x0 : Int) * 256 + (x1 : Int)) * 256 + (x2 : Int)) * 256) = (((x0 : Int) * 256 + (x1 : Int)) * 256 + (x2 : Int)) * 256 := by rw [wrap32]; omega
  simp only [Int.natCast_add, Int.natCast_mul, Int.cast_ofNat_Int] at k2 k3
  clear k0
  go_enter Try.func63, Try.ntmps63
  go_wp2
  refine wp_loop_rounds 5 ?_
  rw [rounds_succ]
  go_wp2
  rw [rounds_succ]
  go_wp2
  rw [rounds_succ]
  go_wp2
  rw [rounds_succ]
  go_wp2
  rw [rounds_succ]
  go_wp2
  go_ret
  exact ⟨rfl, rfl⟩

/-- What get answers at place o of a header. -/
def gv (bs : List Nat) (l o : Nat) : Int :=
  if l = 2 then (hof bs o : Int) * 256 + (hof bs (o + 1) : Int) else (((hof bs o : Int) * 256 + (hof bs (o + 1) : Int)) * 256 + (hof bs (o + 2) : Int)) * 256 + (hof bs (o + 3) : Int)

/-- The packet of some bytes, its data at A. -/
def decP (bs : List Nat) (A : Option Addr) (c : Nat) : Pkt :=
  ⟨gv bs 4 12, gv bs 4 16, (hof bs 1 : Int), (hof bs 2 : Int), gv bs 2 6, gv bs 2 8, (hof bs 3 : Int) == 1, A, c, bs.drop 20⟩
theorem gv2_le {bs : List Nat} (h8 : ∀ j, hof bs j ≤ 255) (o : Nat) : 0 ≤ gv bs 2 o ∧ gv bs 2 o ≤ 65535 := by
  have h1 := h8 o
  have h2 := h8 (o + 1)
  unfold gv
  rw [if_pos rfl]
  omega

/-- What Decode answers where the bytes are a header and its data. -/
def AcceptedS (bs : List Nat) (w : World) (e : Ending) (w' : World) : Prop :=
  Only [] w w' ∧ ((decP bs none 0).bad ∧ e = .returned (.tuple #[.agg zeroP.toArray, I64 34]) ∨ ¬ (decP bs none 0).bad ∧ ∃ A c, e = .returned (.tuple #[(decP bs A c).V, I64 0]) ∧ NumsIn w' .u8 A (bs.drop 20) )

/-- slices.Clone for a region that draws its order: what cells were there are as they were. -/
theorem clone_held (A : Option Addr) (data : List Nat) (m c : Nat) (w : World) (hm : data.length = m) (hA : NumsIn w .u8 A data) (hsz : m ≤ 1000000) (hA0 : A = none → m = 0 ∧ c = 0) :
    Calls Try.prog 19 #[.slice A m c] w fun e w' => ∃ A' c', e = .returned (.slice A' m c') ∧ (∀ a, (w.cell? a).isSome = true → w'.cell? a = w.cell? a) ∧ (∀ a, (w.cell? a).isSome = true → w'.frozen? a = w.frozen? a) ∧ w.heap.size ≤ w'.heap.size ∧ Hid (Only [] w w' ∧ BytesBlk w' A' data) := by
  refine (clone_ok A data m c w hm hA hsz hA0).mono ?_
  rintro e w' ⟨A', c', rfl, ho, hb, -, -, -⟩
  refine ⟨A', c', rfl, fun a ha => ?_, fun a ha => ?_, ho.size, hide ⟨ho, hb⟩⟩
  · obtain ⟨v, hv⟩ := Option.isSome_iff_exists.1 ha
    exact World.cell?_of_block (ho.block _ (World.block_lt_of_cell? _ _ hv) (by simp))
  · obtain ⟨v, hv⟩ := Option.isSome_iff_exists.1 ha
    unfold World.frozen?
    rw [ho.block _ (World.block_lt_of_cell? _ _ hv) (by simp)]

theorem get_at (bs : List Nat) (h8 : ∀ j, hof bs j ≤ 255) (b o l c : Nat) (w : World) (hl : l = 2 ∨ l = 4) (c0 : w.cell? ⟨b, o, none⟩ = some (.int .u8 (hof bs o : Nat))) (c1 : w.cell? ⟨b, o + 1, none⟩ = some (.int .u8 (hof bs (o + 1) : Nat)))
    (c2 : l = 4 → w.cell? ⟨b, o + 2, none⟩ = some (.int .u8 (hof bs (o + 2) : Nat))) (c3 : l = 4 → w.cell? ⟨b, o + 3, none⟩ = some (.int .u8 (hof bs (o + 3) : Nat))) :
    Calls Try.prog 63 #[.slice (some ⟨b, o, none⟩) l c] w fun e w' => e = .returned (.int .u32 (gv bs l o)) ∧ w' = w := by
  rcases hl with rfl | rfl
  · exact get2_ok b o c _ _ w (h8 _) (h8 _) c0 c1
  · exact get4_ok b o c _ _ _ _ w (h8 _) (h8 _) (h8 _) (h8 _) c0 c1 (c2 rfl) (c3 rfl)

theorem bytes_alloc {w : World} {A : Option Addr} {data : List Nat} (h : BytesBlk w A data) (o : Obj) : BytesBlk (w.alloc o) A data := by
  rcases h with rfl | ⟨g, rest, rfl, hb⟩
  · exact .inl rfl
  · exact .inr ⟨g, rest, rfl, hb.alloc o⟩
theorem bytes_only {w w' : World} {A : Option Addr} {data : List Nat} {R : Nat} {T : TypeId} {cs : List Value} (h : BytesBlk w A data) (hR : Blk w R T cs) (hT : 5 ≠ T) (ho : Only [R] w w') : BytesBlk w' A data := by
  rcases h with rfl | ⟨g, rest, rfl, hb⟩
  · exact .inl rfl
  · exact .inr ⟨g, rest, rfl, ho.blk hb (by simpa using hb.ne hR hT)⟩
/-- What stands behind the packet's making. -/
def DecCut (bs : List Nat) (w : World) (s5 : Value) (wx : World) : Prop := ∃ R A c, s5 = .pointer (some ⟨R, 0, none⟩) ∧ Only [] w wx ∧ Blk wx w.heap.size 30 zeroP ∧ Blk wx R 30 (decP bs A c).cells ∧ BytesBlk wx A (bs.drop 20)

set_option maxRecDepth 100000 in
set_option maxHeartbeats 40000000 in
theorem decode_accept (b o c n : Nat) (bs : List Nat) (w : World) (hn : bs.length = n) (h20 : 20 ≤ n) (hmax : n ≤ 100000) (hnc : n ≤ c) (h8 : ∀ x ∈ bs, x ≤ 255) (hA : NumsIn w .u8 (some ⟨b, o, none⟩) bs)
    (hmis : hof bs 0 = 4 ∧ hof bs 3 ≤ 1 ∧ hof bs 4 * 256 + hof bs 5 + 20 = n ∧ hof bs 10 * 256 + hof bs 11 = 65535 - sumw (hwords (hof bs))) :
    Calls Try.prog 20 #[.slice (some ⟨b, o, none⟩) n c] w fun e w' => AcceptedS bs w e w' := by
  have hb8 : ∀ j, hof bs j ≤ 255 := by
    intro j
    unfold hof
    rw [List.getD_eq_getElem?_getD]
    cases hj : bs[j]? with
    | none => simp
    | some x => simpa using h8 x (List.mem_of_getElem? hj)
  have hcell : ∀ j, j < n → w.cell? ⟨b, o + j, none⟩ = some (.int .u8 (hof bs j : Nat)) := by
    intro j hj
    have hx : bs[j]? = some (hof bs j) := by unfold hof; rw [List.getD_eq_getElem?_getD, List.getElem?_eq_getElem (by omega)]; rfl
    obtain ⟨b', o', he, hc⟩ := hA j _ hx
    injection he with he
    injection he with h1 h2
    subst h1 h2
    exact hc
  have HO : Hid (∀ w', Only [] w w' → ∀ j, j < n → w'.cell? ⟨b, o + j, none⟩ = some (.int .u8 (hof bs j : Nat))) := hide (fun w' ho j hj => by
    have lb : b < w.heap.size := World.block_lt_of_cell? _ _ (hcell j hj)
    rw [← hcell j hj]
    unfold World.cell?
    rw [ho.block _ lb (by simp)])
  have H8 := hide hb8
  have HM := hide hmis
  have c0 : w.cell? ⟨b, o, none⟩ = some (.int .u8 (hof bs 0 : Nat)) := by simpa using hcell 0 (by omega)
  have c3 := hcell 3 (by omega)
  have lb : b < w.heap.size := World.block_lt_of_cell? _ _ c0
  have hbz := build_zeroP
  have d0 : (hof bs 0 : Int) = 4 := by omega
  have d3 : ¬ ((1 : Int) < (hof bs 3 : Int)) := by omega
  have HA := hide hA
  have HNN := hide hn
  clear hn hmis hcell h8 hA hb8
  go_enter Try.func20, Try.ntmps20
  have hc4 : ¬ (c = 4) := by omega
  go_wp2_with fail
  refine (get2_ok b (o + 4) _ (hof bs 4) (hof bs 5) _ (H8.out _) (H8.out _) (HO.out _ ((Only.refl _ _).alloc _) 4 (by omega)) (HO.out _ ((Only.refl _ _).alloc _) 5 (by omega))).mono ?_
  rintro e w1 ⟨rfl, rfl⟩
  have q4 := H8.out 4
  have q5 := H8.out 5
  have wx : IntKind.i64.wrap ((hof bs 4 : Int) * 256 + (hof bs 5 : Int)) = (hof bs 4 : Int) * 256 + (hof bs 5 : Int) := by simp [IntKind.wrap, IntKind.bits, IntKind.signed]; omega
  have wn : IntKind.i64.wrap ((n : Int) - 20) = (n : Int) - 20 := by simp [IntKind.wrap, IntKind.bits, IntKind.signed]; omega
  have dl : (hof bs 4 : Int) * 256 + (hof bs 5 : Int) = (n : Int) - 20 := by have := HM.out; omega
  have HL := hide dl
  have hdl : ((hof bs 4 : Int) * 256 + (hof bs 5 : Int) != (n : Int) - 20) = false := by simp [dl]
  clear dl
  have hat : ∀ w, (Instr.arrayAt 123 (.slice (some ⟨b, o, none⟩) n c)).run Try.prog w = .ok (.pointer (some ⟨b, o, none⟩)) w := fun w => run_arrayAt w 123 _ 20 _ n c Try.underlying123 h20
  have hcn : (hcells (hof bs)).length = 20 := by simp [hcells]
  have HCN := hide hcn
  clear hcn
  go_wp2_with (first
    | simp only [hat]
    | refine wpList_load_cells rfl 123 (.tmp 34) rfl b o rfl (hcells (hof bs)) (d := _) (fun j v hv => by
        have hj : j < 20 := by have := (List.getElem?_eq_some_iff.1 hv).1; rw [HCN.out] at this; exact this
        rw [hcells_at _ hj] at hv
        rw [← hv]
        exact HO.out _ ((Only.refl _ _).alloc _) j (by omega)) Try.underlying123 rfl (by rw [HCN.out]; kernel_rfl) ?_
    | (refine wpList_store_cells rfl 123 (.tmp 4) (.tmp 35) rfl _ _ rfl (hcells (hof bs)) rfl 123 zs20 (Blk.newA (by show w.heap.size + 1 = (w.heap.push _).size; rw [Array.size_push])) (by rw [HCN.out]; exact Nat.le_refl _) (by rw [HCN.out]; kernel_rfl) (by simp [hcells, Value.oneCell']) ?_; intro v0 hw2))
  have hAl : Only [] w ((w.alloc (.cells zeroP.toArray 30)).alloc (.cells zs20.toArray 123)) := ((Only.refl [] w).alloc _).alloc _
  have h1 : Only [] w v0 := hAl.trans' hw2.2.1 (by intro i hi; simp at hi; omega)
  have h2 : Blk v0 w.heap.size 30 zeroP := hw2.2.1.blk ((Blk.new w _ zeroP).alloc _) (by simp)
  have h3 : Blk v0 (w.heap.size + 1) 123 (hcells (hof bs)) := Blk.to hw2.1 (by rw [HCN.out]; simp)
  have HD := hide (And.intro h1 (And.intro h2 h3))
  have lt1 := h3.lt
  have heq : ((hof bs 10 : Int) * 256 + (hof bs 11 : Int) != ((65535 - sumw (hwords (hof bs)) : Nat) : Int)) = false := by
    have e2 := HM.out.2.2.2
    simp only [bne_eq_false_iff_eq]
    omega
  have q10 := H8.out 10
  have q11 := H8.out 11
  have wy : IntKind.u16.wrap ((hof bs 10 : Int) * 256 + (hof bs 11 : Int)) = (hof bs 10 : Int) * 256 + (hof bs 11 : Int) := by rw [wrap16]; omega
  clear h1 h2 h3 hAl hw2 hat wx wn hdl c0 c3 d0 d3 q4 q5
  simp only [Act.put]
  refine wp_region_text 4 [1] [2] [3] (fun w' => Blk w' (w.heap.size + 1) hdrT (hcells (hof bs))) (by kernel_rfl) (by kernel_rfl) HD.out.2.2.drew ?_
  simp only [List.take_succ_cons, List.take_zero, List.drop_succ_cons, List.drop_zero]
  repeat (first | ((refine wpText_h rfl rfl ?_; apply Exists.intro; refine ⟨?_, ?_⟩; next => (go_simp; (try (go_bits; go_simp)); (first | done | with_reducible rfl | (rw [if_neg (by omega)]; (try (go_bits; go_simp)); (first | done | with_reducible rfl)) | (rw [if_pos (by omega)]; (try (go_bits; go_simp)); (first | done | with_reducible rfl))))); (try simp only [Act.put, List.setIfInBounds_toArray, List.set_cons_zero, List.set_cons_succ])) | ((refine wpText_p rfl rfl ?_; apply Exists.intro; refine ⟨?_, ?_⟩; next => (intro w'; go_simp; (try (go_bits; go_simp)); (first | done | with_reducible rfl | (rw [if_neg (by omega)]; (try (go_bits; go_simp)); (first | done | with_reducible rfl)) | (rw [if_pos (by omega)]; (try (go_bits; go_simp)); (first | done | with_reducible rfl))))); (try simp only [Act.put, List.setIfInBounds_toArray, List.set_cons_zero, List.set_cons_succ])) | ((refine wpText_y rfl rfl ?_; apply Exists.intro; refine ⟨?_, ?_⟩; next => (intro w' hS; (first | obtain ⟨_, rfl⟩ := hS | skip); go_simp; (try (go_bits; go_simp)); (first | done | with_reducible rfl | (rw [if_neg (by omega)]; (try (go_bits; go_simp)); (first | done | with_reducible rfl)) | (rw [if_pos (by omega)]; (try (go_bits; go_simp)); (first | done | with_reducible rfl))))); (try simp only [Act.put, List.setIfInBounds_toArray, List.set_cons_zero, List.set_cons_succ])) | (refine wpText_skip (by first | exact .inl rfl | exact .inr (.inl rfl) | exact .inr (.inr rfl)) rfl ?_; (try simp only [Act.put, List.setIfInBounds_toArray, List.set_cons_zero, List.set_cons_succ])))
  refine wpText_e rfl rfl (fun K hK => ?_)
  go_wp2_with fail
  refine (get2_ok (w.heap.size + 1) 10 _ (hof bs 10) (hof bs 11) _ (H8.out _) (H8.out _) (HD.out.2.2.drew.cell (hcells_at _ (by omega))) (HD.out.2.2.drew.cell (hcells_at _ (by omega)))).mono ?_
  rintro e w1 ⟨rfl, rfl⟩
  refine hK _ _ HD.out.2.2.drew ?_
  clear hK K
  repeat (first | ((refine wpText_h rfl rfl ?_; apply Exists.intro; refine ⟨?_, ?_⟩; next => (go_simp; (try (go_bits; go_simp)); (first | done | with_reducible rfl | (rw [if_neg (by omega)]; (try (go_bits; go_simp)); (first | done | with_reducible rfl)) | (rw [if_pos (by omega)]; (try (go_bits; go_simp)); (first | done | with_reducible rfl))))); (try simp only [Act.put, List.setIfInBounds_toArray, List.set_cons_zero, List.set_cons_succ])) | ((refine wpText_p rfl rfl ?_; apply Exists.intro; refine ⟨?_, ?_⟩; next => (intro w'; go_simp; (try (go_bits; go_simp)); (first | done | with_reducible rfl | (rw [if_neg (by omega)]; (try (go_bits; go_simp)); (first | done | with_reducible rfl)) | (rw [if_pos (by omega)]; (try (go_bits; go_simp)); (first | done | with_reducible rfl))))); (try simp only [Act.put, List.setIfInBounds_toArray, List.set_cons_zero, List.set_cons_succ])) | ((refine wpText_y rfl rfl ?_; apply Exists.intro; refine ⟨?_, ?_⟩; next => (intro w' hS; (first | obtain ⟨_, rfl⟩ := hS | skip); go_simp; (try (go_bits; go_simp)); (first | done | with_reducible rfl | (rw [if_neg (by omega)]; (try (go_bits; go_simp)); (first | done | with_reducible rfl)) | (rw [if_pos (by omega)]; (try (go_bits; go_simp)); (first | done | with_reducible rfl))))); (try simp only [Act.put, List.setIfInBounds_toArray, List.set_cons_zero, List.set_cons_succ])) | (refine wpText_skip (by first | exact .inl rfl | exact .inr (.inl rfl) | exact .inr (.inr rfl)) rfl ?_; (try simp only [Act.put, List.setIfInBounds_toArray, List.set_cons_zero, List.set_cons_succ])))
  refine wpText_y rfl rfl ⟨.agg (hcells (hof bs)).toArray, ?_, ?_⟩
  · intro w' hS
    exact exec_load_cells 123 (.tmp 4) rfl (w.heap.size + 1) 0 rfl (hcells (hof bs)) (d := _) (fun j v hv => by rw [Nat.zero_add]; exact Blk.cell hS hv) Try.underlying123 rfl (by rw [HCN.out]; kernel_rfl)
  try simp only [Act.put, List.setIfInBounds_toArray, List.set_cons_zero, List.set_cons_succ]
  repeat (first | ((refine wpText_h rfl rfl ?_; apply Exists.intro; refine ⟨?_, ?_⟩; next => (go_simp; (try (go_bits; go_simp)); (first | done | with_reducible rfl | (rw [if_neg (by omega)]; (try (go_bits; go_simp)); (first | done | with_reducible rfl)) | (rw [if_pos (by omega)]; (try (go_bits; go_simp)); (first | done | with_reducible rfl))))); (try simp only [Act.put, List.setIfInBounds_toArray, List.set_cons_zero, List.set_cons_succ])) | ((refine wpText_p rfl rfl ?_; apply Exists.intro; refine ⟨?_, ?_⟩; next => (intro w'; go_simp; (try (go_bits; go_simp)); (first | done | with_reducible rfl | (rw [if_neg (by omega)]; (try (go_bits; go_simp)); (first | done | with_reducible rfl)) | (rw [if_pos (by omega)]; (try (go_bits; go_simp)); (first | done | with_reducible rfl))))); (try simp only [Act.put, List.setIfInBounds_toArray, List.set_cons_zero, List.set_cons_succ])) | ((refine wpText_y rfl rfl ?_; apply Exists.intro; refine ⟨?_, ?_⟩; next => (intro w' hS; (first | obtain ⟨_, rfl⟩ := hS | skip); go_simp; (try (go_bits; go_simp)); (first | done | with_reducible rfl | (rw [if_neg (by omega)]; (try (go_bits; go_simp)); (first | done | with_reducible rfl)) | (rw [if_pos (by omega)]; (try (go_bits; go_simp)); (first | done | with_reducible rfl))))); (try simp only [Act.put, List.setIfInBounds_toArray, List.set_cons_zero, List.set_cons_succ])) | (refine wpText_skip (by first | exact .inl rfl | exact .inr (.inl rfl) | exact .inr (.inr rfl)) rfl ?_; (try simp only [Act.put, List.setIfInBounds_toArray, List.set_cons_zero, List.set_cons_succ])))
  refine wpText_nil ?_
  go_wp2_with fail
  refine (sum_ok (hof bs) H8.out _).mono ?_
  rintro e w1 ⟨rfl, ho⟩
  have HD1 := hide (show _ ∧ _ ∧ _ from ⟨Only.trans HD.out.1.drew ho, ho.blk HD.out.2.1.drew (by simp), ho.blk HD.out.2.2.drew (by simp)⟩)
  clear ho
  go_wp2
  refine NoX.normal ?_
  go_wp2_with fail
  clear HO hbz
  have g1 := HD1.out.2.2.cell (hcells_at (hof bs) (j := 1) (by omega))
  have g2 := HD1.out.2.2.cell (hcells_at (hof bs) (j := 2) (by omega))
  have g3 := HD1.out.2.2.cell (hcells_at (hof bs) (j := 3) (by omega))
  have g6 := HD1.out.2.2.cell (hcells_at (hof bs) (j := 6) (by omega))
  have g7 := HD1.out.2.2.cell (hcells_at (hof bs) (j := 7) (by omega))
  have g8 := HD1.out.2.2.cell (hcells_at (hof bs) (j := 8) (by omega))
  have g9 := HD1.out.2.2.cell (hcells_at (hof bs) (j := 9) (by omega))
  have g12 := HD1.out.2.2.cell (hcells_at (hof bs) (j := 12) (by omega))
  have g13 := HD1.out.2.2.cell (hcells_at (hof bs) (j := 13) (by omega))
  have g14 := HD1.out.2.2.cell (hcells_at (hof bs) (j := 14) (by omega))
  have g15 := HD1.out.2.2.cell (hcells_at (hof bs) (j := 15) (by omega))
  have g16 := HD1.out.2.2.cell (hcells_at (hof bs) (j := 16) (by omega))
  have g17 := HD1.out.2.2.cell (hcells_at (hof bs) (j := 17) (by omega))
  have g18 := HD1.out.2.2.cell (hcells_at (hof bs) (j := 18) (by omega))
  have g19 := HD1.out.2.2.cell (hcells_at (hof bs) (j := 19) (by omega))
  have lt0 := HD1.out.2.1.lt
  have lth := HD1.out.2.2.lt
  have eh := World.new_ne _ _ g1
  clear wy heq q10 q11 lt1 lb
  have x1 := H8.out 1
  have x2 := H8.out 2
  have x6 := gv2_le H8.out 6
  have x8 := gv2_le H8.out 8
  have ws1 : IntKind.i64.wrap ((hof bs 1 : Nat) : Int) = ((hof bs 1 : Nat) : Int) := by simp [IntKind.wrap, IntKind.bits, IntKind.signed]; omega
  have ws2 : IntKind.i64.wrap ((hof bs 2 : Nat) : Int) = ((hof bs 2 : Nat) : Int) := by simp [IntKind.wrap, IntKind.bits, IntKind.signed]; omega
  have ws6 : IntKind.i64.wrap (gv bs 2 6) = gv bs 2 6 := by simp [IntKind.wrap, IntKind.bits, IntKind.signed]; omega
  have ws8 : IntKind.i64.wrap (gv bs 2 8) = gv bs 2 8 := by simp [IntKind.wrap, IntKind.bits, IntKind.signed]; omega
  clear x1 x2 x6 x8
  have HVal : Hid (∀ (A : Option Addr) (c : Nat) (W : World), Calls Try.prog 27 #[.agg #[.int .u32 (gv bs 4 12), .int .u32 (gv bs 4 16), I64 (hof bs 1 : Int), I64 (hof bs 2 : Int), I64 (gv bs 2 6), I64 (gv bs 2 8), .bool ((hof bs 3 : Int) == 1), .slice A (n - 20) c]] W fun e w' => e = .returned (I64 (decP bs none 0).valid) ∧ Only [] W w') := hide fun A c W => by
    have h := Valid_ok (decP bs A c) W (by show (bs.drop 20).length ≤ maxLen; rw [List.length_drop, HNN.out]; unfold maxLen; omega)
    have e : (bs.drop 20).length = n - 20 := by rw [List.length_drop, HNN.out]
    show Calls Try.prog 27 #[.agg #[.int .u32 (gv bs 4 12), .int .u32 (gv bs 4 16), I64 (hof bs 1 : Int), I64 (hof bs 2 : Int), I64 (gv bs 2 6), I64 (gv bs 2 8), .bool ((hof bs 3 : Int) == 1), .slice A (n - 20) c]] W _
    rw [← e]
    exact h
  have HDL : Hid ((bs.drop 20).length = n - 20) := hide (by rw [List.length_drop, HNN.out])
  have HNW : Hid (∀ W, Only [] w W → NumsIn W .u8 (some ⟨b, o + 20, none⟩) (bs.drop 20)) := hide fun W hW j x hx => by
    rw [List.getElem?_drop] at hx
    obtain ⟨b', o', he, hc⟩ := HA.out (20 + j) x hx
    injection he with he
    injection he with h1 h2
    subst h1 h2
    refine ⟨b, o + 20, rfl, ?_⟩
    rw [World.cell?_of_block (w := w) (hW.block b (World.block_lt_of_cell? _ _ hc) (by simp)), Nat.add_assoc]
    exact hc
  have hcc : 20 ≤ c := by omega
  go_cut [5] (fun s5 wx => DecCut bs w s5 wx)
  case first =>
    by_cases hc20 : c = 20
    · subst hc20
      obtain rfl : n = 20 := by omega
      have HNO : Hid (∀ W, NumsIn W .u8 (some ⟨b, o, none⟩) (bs.drop 20)) := hide fun W j x hx => by
        rw [List.length_eq_zero_iff.1 HDL.out] at hx; simp at hx
      go_region_held3 (fun w' => w'.cell? ⟨w.heap.size + 1, 1, none⟩ = some (.int .u8 (hof bs 1 : Nat)) ∧ w'.cell? ⟨w.heap.size + 1, 2, none⟩ = some (.int .u8 (hof bs 2 : Nat)) ∧ w'.cell? ⟨w.heap.size + 1, 3, none⟩ = some (.int .u8 (hof bs 3 : Nat)) ∧ w'.cell? ⟨w.heap.size + 1, 6, none⟩ = some (.int .u8 (hof bs 6 : Nat)) ∧ w'.cell? ⟨w.heap.size + 1, 7, none⟩ = some (.int .u8 (hof bs 7 : Nat)) ∧ w'.cell? ⟨w.heap.size + 1, 8, none⟩ = some (.int .u8 (hof bs 8 : Nat)) ∧ w'.cell? ⟨w.heap.size + 1, 9, none⟩ = some (.int .u8 (hof bs 9 : Nat)) ∧ w'.cell? ⟨w.heap.size + 1, 12, none⟩ = some (.int .u8 (hof bs 12 : Nat)) ∧ w'.cell? ⟨w.heap.size + 1, 13, none⟩ = some (.int .u8 (hof bs 13 : Nat)) ∧ w'.cell? ⟨w.heap.size + 1, 14, none⟩ = some (.int .u8 (hof bs 14 : Nat)) ∧ w'.cell? ⟨w.heap.size + 1, 15, none⟩ = some (.int .u8 (hof bs 15 : Nat)) ∧ w'.cell? ⟨w.heap.size + 1, 16, none⟩ = some (.int .u8 (hof bs 16 : Nat)) ∧ w'.cell? ⟨w.heap.size + 1, 17, none⟩ = some (.int .u8 (hof bs 17 : Nat)) ∧ w'.cell? ⟨w.heap.size + 1, 18, none⟩ = some (.int .u8 (hof bs 18 : Nat)) ∧ w'.cell? ⟨w.heap.size + 1, 19, none⟩ = some (.int .u8 (hof bs 19 : Nat))) (go_keep)
        (first
          | (go_at_call 63; refine (get_at bs H8.out (w.heap.size + 1) _ _ _ _ ?_ ?_ ?_ ?_ ?_).mono ?_; (simp); (simp [*]); (simp [*]); (simp [*]); (simp [*]); rintro e w' ⟨rfl, rfl⟩)
          | (go_at_call 19; refine (clone_held (some ⟨b, o, none⟩) (bs.drop 20) 0 0 _ HDL.out ?_ (by omega) (by simp)).mono ?_; (first | exact HNO.out _ | exact HNO.out _); rintro e w' ⟨A', c', rfl, hcl, hfr, hsz', HCL⟩))
      all_goals
        go_wp2_with fail
        go_meet
        first
          | (refine ⟨_, A', c', rfl, ?_, ?_, ?_, ?_⟩
             · exact (HD1.out.1.drew.trans HCL.out.1).alloc _
             · exact (HCL.out.1.blk HD1.out.2.1.drew (by simp)).alloc _
             · exact Blk.to (Blk.newA rfl) (by unfold Pkt.cells decP; simp only [HDL.out])
             · exact bytes_alloc HCL.out.2 _)
          | (have hZ := HCL.out.1.blk ((Blk.new w1 30 zeroP).drew) (by simp)
             have hW1 := (HD1.out.1.alloc (.cells zeroP.toArray 30)).drew.trans HCL.out.1
             have hR1 := HCL.out.1.blk ((HD1.out.2.1.alloc (.cells zeroP.toArray 30)).drew) (by simp)
             refine ⟨_, A', c', rfl, ?_, ?_, ?_, ?_⟩
             · repeat (first | with_reducible exact hW1 | with_reducible apply Only.drew | with_reducible apply Only.drewN | with_reducible apply Only.alloc | (with_reducible apply Only.set'; next => (first | (left; simp; done) | (right; dsimp only; omega) | (right; simp; omega))))
             · repeat (first | with_reducible exact hR1 | (with_reducible refine Blk.newA ?_; simp; done) | with_reducible apply Blk.drew | with_reducible apply Blk.drewN | with_reducible apply Blk.alloc | with_reducible apply Blk.set | (with_reducible apply Blk.far'; next => (first | assumption | exact Ne.symm ‹_› | (dsimp only; omega))))
             · apply Blk.to
               next => repeat (first | with_reducible exact hZ | (with_reducible refine Blk.newA ?_; simp; done) | with_reducible apply Blk.drew | with_reducible apply Blk.drewN | with_reducible apply Blk.alloc | with_reducible apply Blk.set | (with_reducible apply Blk.far'; next => (first | assumption | exact Ne.symm ‹_› | (dsimp only; omega))))
               unfold Pkt.cells decP; simp only [HDL.out]; rfl
             · refine bytes_only HCL.out.2 hZ (by decide) ?_
               repeat (first | with_reducible exact (Only.refl [w1.heap.size] w') | with_reducible apply Only.drew | with_reducible apply Only.drewN | with_reducible apply Only.alloc | (with_reducible apply Only.set'; next => (first | (left; simp; done) | (right; dsimp only; omega) | (right; simp; omega))))
            )
    · have tok : True := trivial
      go_region_held3 (fun w' => w'.cell? ⟨w.heap.size + 1, 1, none⟩ = some (.int .u8 (hof bs 1 : Nat)) ∧ w'.cell? ⟨w.heap.size + 1, 2, none⟩ = some (.int .u8 (hof bs 2 : Nat)) ∧ w'.cell? ⟨w.heap.size + 1, 3, none⟩ = some (.int .u8 (hof bs 3 : Nat)) ∧ w'.cell? ⟨w.heap.size + 1, 6, none⟩ = some (.int .u8 (hof bs 6 : Nat)) ∧ w'.cell? ⟨w.heap.size + 1, 7, none⟩ = some (.int .u8 (hof bs 7 : Nat)) ∧ w'.cell? ⟨w.heap.size + 1, 8, none⟩ = some (.int .u8 (hof bs 8 : Nat)) ∧ w'.cell? ⟨w.heap.size + 1, 9, none⟩ = some (.int .u8 (hof bs 9 : Nat)) ∧ w'.cell? ⟨w.heap.size + 1, 12, none⟩ = some (.int .u8 (hof bs 12 : Nat)) ∧ w'.cell? ⟨w.heap.size + 1, 13, none⟩ = some (.int .u8 (hof bs 13 : Nat)) ∧ w'.cell? ⟨w.heap.size + 1, 14, none⟩ = some (.int .u8 (hof bs 14 : Nat)) ∧ w'.cell? ⟨w.heap.size + 1, 15, none⟩ = some (.int .u8 (hof bs 15 : Nat)) ∧ w'.cell? ⟨w.heap.size + 1, 16, none⟩ = some (.int .u8 (hof bs 16 : Nat)) ∧ w'.cell? ⟨w.heap.size + 1, 17, none⟩ = some (.int .u8 (hof bs 17 : Nat)) ∧ w'.cell? ⟨w.heap.size + 1, 18, none⟩ = some (.int .u8 (hof bs 18 : Nat)) ∧ w'.cell? ⟨w.heap.size + 1, 19, none⟩ = some (.int .u8 (hof bs 19 : Nat))) (go_keep)
        (first
          | (go_at_call 63; refine (get_at bs H8.out (w.heap.size + 1) _ _ _ _ ?_ ?_ ?_ ?_ ?_).mono ?_; (simp); (simp [*]); (simp [*]); (simp [*]); (simp [*]); rintro e w' ⟨rfl, rfl⟩)
          | (go_at_call 19; refine (clone_held (some ⟨b, o + 20, none⟩) (bs.drop 20) (n - 20) (c - 20) _ HDL.out ?_ (by omega) (by simp)).mono ?_; (first | exact HNW.out _ HD1.out.1.drew | exact HNW.out _ (HD1.out.1.drew.alloc _)); rintro e w' ⟨A', c', rfl, hcl, hfr, hsz', HCL⟩))
      all_goals
        go_wp2_with fail
        go_meet
        first
          | (refine ⟨_, A', c', rfl, ?_, ?_, ?_, ?_⟩
             · exact (HD1.out.1.drew.trans HCL.out.1).alloc _
             · exact (HCL.out.1.blk HD1.out.2.1.drew (by simp)).alloc _
             · exact Blk.to (Blk.newA rfl) (by unfold Pkt.cells decP; simp only [HDL.out])
             · exact bytes_alloc HCL.out.2 _)
          | (have hZ := HCL.out.1.blk ((Blk.new w1 30 zeroP).drew) (by simp)
             have hW1 := (HD1.out.1.alloc (.cells zeroP.toArray 30)).drew.trans HCL.out.1
             have hR1 := HCL.out.1.blk ((HD1.out.2.1.alloc (.cells zeroP.toArray 30)).drew) (by simp)
             refine ⟨_, A', c', rfl, ?_, ?_, ?_, ?_⟩
             · repeat (first | with_reducible exact hW1 | with_reducible apply Only.drew | with_reducible apply Only.drewN | with_reducible apply Only.alloc | (with_reducible apply Only.set'; next => (first | (left; simp; done) | (right; dsimp only; omega) | (right; simp; omega))))
             · repeat (first | with_reducible exact hR1 | (with_reducible refine Blk.newA ?_; simp; done) | with_reducible apply Blk.drew | with_reducible apply Blk.drewN | with_reducible apply Blk.alloc | with_reducible apply Blk.set | (with_reducible apply Blk.far'; next => (first | assumption | exact Ne.symm ‹_› | (dsimp only; omega))))
             · apply Blk.to
               next => repeat (first | with_reducible exact hZ | (with_reducible refine Blk.newA ?_; simp; done) | with_reducible apply Blk.drew | with_reducible apply Blk.drewN | with_reducible apply Blk.alloc | with_reducible apply Blk.set | (with_reducible apply Blk.far'; next => (first | assumption | exact Ne.symm ‹_› | (dsimp only; omega))))
               unfold Pkt.cells decP; simp only [HDL.out]; rfl
             · refine bytes_only HCL.out.2 hZ (by decide) ?_
               repeat (first | with_reducible exact (Only.refl [w1.heap.size] w') | with_reducible apply Only.drew | with_reducible apply Only.drewN | with_reducible apply Only.alloc | (with_reducible apply Only.set'; next => (first | (left; simp; done) | (right; dsimp only; omega) | (right; simp; omega))))
            )
  case rest =>
    obtain ⟨R, A', c', rfl, k1, k2, k3, k4⟩ := hcut
    have e0 := k3.cell (i := 0) rfl
    have e1 := k3.cell (i := 1) rfl
    have e2 := k3.cell (i := 2) rfl
    have e3 := k3.cell (i := 3) rfl
    have e4 := k3.cell (i := 4) rfl
    have e5 := k3.cell (i := 5) rfl
    have e6 := k3.cell (i := 6) rfl
    have e7 := (Blk.to k3 (show (decP bs A' c').cells = [.int .u32 (gv bs 4 12), .int .u32 (gv bs 4 16), I64 (hof bs 1 : Int), I64 (hof bs 2 : Int), I64 (gv bs 2 6), I64 (gv bs 2 8), .bool ((hof bs 3 : Int) == 1), .slice A' (n - 20) c'] by unfold Pkt.cells decP; simp only [HDL.out])).cell (i := 7) rfl
    have ltR := k3.lt
    have HK := hide (show _ ∧ _ ∧ _ ∧ _ from ⟨k1, k2, k3, k4⟩)
    clear k1 k2 k3 k4
    go_wp2_with fail
    refine (HVal.out _ _ _).mono ?_
    rintro e w6 ⟨rfl, ho6⟩
    have HK6 := hide (show _ ∧ _ ∧ _ ∧ _ from ⟨Only.trans HK.out.1 ho6, ho6.blk HK.out.2.1 (by simp), ho6.blk HK.out.2.2.1 (by simp), HK.out.2.2.2.onlyT (OnlyT.of_nil (Ts := []) (base := 0) ho6) (by simp)⟩)
    clear ho6 e0 e1 e2 e3 e4 e5 e6 e7 ltR HK
    by_cases hbad : (decP bs none 0).bad
    · rw [Pkt.valid_bad hbad]
      have HBD := hide hbad
      clear hbad
      have hbz := build_zeroP
      go_wp2_with (refine wpList_store_cells rfl 30 (.tmp 2) (.tmp 70) rfl _ _ rfl zeroP rfl 30 zeroP HK6.out.2.1 (by decide) (by kernel_rfl) (by simp [Value.oneCell']) ?_; intro v1 hw3)
      have ho2 : Only [] w v1 := HK6.out.1.trans' hw3.2.1 (by intro i hi; simp at hi; omega)
      refine bodyPost_ret (results_cell_tmp rfl _ _ _ rfl (load_zero (Blk.to hw3.1 (by rfl)))) rfl ?_
      exact ⟨ho2, .inl ⟨HBD.out, rfl⟩⟩
    · rw [Pkt.valid_good hbad]
      have HBD := hide hbad
      clear hbad
      go_wp2_with (first
        | (refine wpList_load_cells rfl 30 (.tmp 5) rfl R 0 rfl (decP bs A' c').cells (d := _) (fun j v hv => by rw [Nat.zero_add]; exact HK6.out.2.2.1.cell hv) Try.underlying30 rfl (by unfold Pkt.cells; kernel_rfl) ?_)
        | (refine wpList_store_cells rfl 30 (.tmp 2) (.tmp 72) rfl _ _ rfl (decP bs A' c').cells rfl 30 zeroP HK6.out.2.1 (by simp [Pkt.cells]) (by unfold Pkt.cells; kernel_rfl) (by simp [Pkt.cells, Value.oneCell']) ?_; intro v1 hw3))
      have ho2 : Only [] w v1 := HK6.out.1.trans' hw3.2.1 (by intro i hi; simp at hi; omega)
      refine bodyPost_ret (results_cell_tmp rfl _ _ _ rfl (load_pkt (p := decP bs A' c') (Blk.to hw3.1 (by simp [Pkt.cells])))) rfl ?_
      refine ⟨ho2, .inr ⟨HBD.out, A', c', rfl, ?_⟩⟩
      have hne : HK6.out.2.1 = HK6.out.2.1 := rfl
      exact (bytes_only HK6.out.2.2.2 HK6.out.2.1 (by decide) hw3.2.1).nums

end Go.Proofs.Ytlnejlhdkmneeaa
