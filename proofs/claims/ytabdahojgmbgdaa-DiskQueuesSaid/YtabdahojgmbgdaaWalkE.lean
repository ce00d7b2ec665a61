/- Read. -/
import Derived.Test.YtabdahojgmbgdaaWalkD
namespace Go.Proofs.Ytabdahojgmbgdaa
open Go.RowKit Go.Shelf

attribute [local go_sem] Oper.semAt_some

/-- What a block reads as. -/
def Dk.look (D : Dk) (b : Nat) : List Nat := match D.cache.reverse.find? (fun x => x.1 == b) with
  | some x => x.2
  | none => D.bs.getD b []
def Dk.read (D : Dk) (b : Int) : List Nat := if D.code b = 0 then D.look b.toNat else zb

abbrev errT : TypeId := 26
abbrev intT : TypeId := 3
def zA : Array Value := (bcells zb).toArray
theorem zA_info : (Try.prog.info? blkT).bind (·.zero) = some (.agg zA) := by kernel_rfl
theorem zA_list : zA.toList = bcells zb := by simp [zA]
theorem zA_len : zA.toList.length = 64 := by rw [zA_list, bcells_len, zb_len]
theorem build_zb : ∀ w : World, (Instr.build blkT #[]).run Try.prog w = .ok (.agg (bcells zb).toArray) w := fun _ => by kernel_rfl

theorem results_cell_cell {fn : Func} {a b : Tmp} {t u : TypeId} (h : fn.results = #[.cell a t, .cell b u]) (tmps : Array Value) (P : Program) (w : World) {ad bd : Addr} {va vb : Value} (ha : tmps.getD a undef = .pointer (some ad)) (hb : tmps.getD b undef = .pointer (some bd))
    (hl : (loadVar t ad).run P w = .ok va w) (hl2 : (loadVar u bd).run P w = .ok vb w) : (results fn tmps).run P w = .ok (.tuple #[va, vb]) w := by
  have ha' : tmps[a]?.getD undef = .pointer (some ad) := by simpa using ha
  have hb' : tmps[b]?.getD undef = .pointer (some bd) := by simpa using hb
  simp [results, h, asAddr, ha', hb', hl, hl2]

theorem load_blk {w : World} {b : Nat} {l : List Nat} (h : Blk w b blkT (bcells l)) (hl : l.length = 64) : (loadVar blkT ⟨b, 0, none⟩).run Try.prog w = .ok (.agg (bcells l).toArray) w :=
  run_loadVar_cells w b 0 _ _ (d := _) (fun j v hv => by rw [Nat.zero_add]; exact h.cell hv) Try.underlying49 rfl (by rw [bcells_len, hl]; kernel_rfl)
theorem load_err {w : World} {b : Nat} {n : Int} (h : Blk w b errT [I64 n]) : (loadVar errT ⟨b, 0, none⟩).run Try.prog w = .ok (I64 n) w := by
  have hc := h.cell (i := 0) rfl
  simp [loadVar, isAgg, run_underlying Try.underlying26, loadVar, hc, go_sem]

/-- What Read answers. -/
def ReadS (D : Dk) (b : Int) (w : World) (e : Ending) (w' : World) : Prop :=
  e = .returned (.tuple #[.agg (bcells (D.read b)).toArray, I64 (D.code b)]) ∧ Only [] w w'

set_option maxRecDepth 20000 in
set_option maxHeartbeats 1000000 in
theorem read_bad (base : Nat) (w : World) (p : DP) (D : Dk) (b : Int) (h : DkAt base w p D) (hcode : D.code b ≠ 0) : Calls Try.prog 19 #[.pointer (some ⟨p.d, 0, none⟩), I64 b] w (ReadS D b w) := by
  obtain ⟨W1, hW1⟩ : ∃ W1, W1 = ((w.alloc (.cells #[I64 b] intT)).alloc (.cells zA blkT)).alloc (.cells #[I64 0] errT) := ⟨_, rfl⟩
  have ho : Only [] w W1 := by rw [hW1]; exact (((Only.refl [] w).alloc _).alloc _).alloc _
  have HU := hide (usable_ok base W1 p D b (h.keep ho))
  have hb3 : Blk W1 w.heap.size intT [I64 b] := by rw [hW1]; exact ((Blk.newA (c := #[I64 b]) rfl).alloc _).alloc _
  have hb4 : Blk W1 (w.heap.size + 1) blkT zA.toList := by rw [hW1]; exact (Blk.newA (by simp)).alloc _
  have hb5 : Blk W1 (w.heap.size + 1 + 1) errT [I64 0] := by rw [hW1]; exact Blk.newA (c := #[I64 0]) (by simp)
  obtain ⟨cd, hcd⟩ : ∃ cd, cd = D.code b := ⟨_, rfl⟩
  rw [← hcd] at hcode HU
  have HB := hide (And.intro hb3 (And.intro hb4 hb5))
  have HO := hide ho
  have HCD := hide hcd
  have HZ := hide (show 0 + (bcells zb).length ≤ zA.toList.length by rw [zA_len, bcells_len, zb_len]; decide)
  have HZ2 := hide (show (bcells zb).length = 64 by rw [bcells_len, zb_len])
  have H1 := hide (bcells_one zb)
  have hbz := build_zb
  have HW1 := hide hW1
  have hc0 : ¬ cd = 0 := hcode
  clear h ho hb3 hb4 hb5 hcd hW1 hcode
  go_enter Try.func19, Try.ntmps19
  go_wp2_with (first
    | (refine wpList_alloc_agg rfl blkT rfl zA zA_info ?_)
    | (go_at_call 46; rw [show (((w.alloc (.cells #[I64 b] intT)).alloc (.cells zA blkT)).alloc (.cells #[I64 0] errT)) = W1 from HW1.out.symm]; refine HU.out.mono ?_; rintro e w1 ⟨rfl, rfl⟩)
    | (refine wpList_store_cells rfl blkT (.tmp 4) (.tmp 14) rfl (w.heap.size + 1) 0 rfl (bcells zb) rfl blkT zA.toList HB.out.2.1 HZ.out (by rw [HZ2.out]; kernel_rfl) H1.out ?_; intro w2 hw2
       have hx5 : Blk w2 (w.heap.size + 1 + 1) errT [I64 0] := hw2.2.1.blk HB.out.2.2 (by simp)
       have x5 := hx5.cell (i := 0) rfl
       have z5 := hx5.frozen 0
       have HX5 := hide hx5
       have HW2 := hide hw2
       clear hw2 hx5))
  have hb4 : Blk w2 (w.heap.size + 1) blkT (bcells zb) := HW2.out.1.to (by rw [List.drop_of_length_le (by rw [zA_len, HZ2.out]; decide)]; simp)
  have ho2 : Only [] w w2 := HO.out.trans' HW2.out.2.1 (by intro i hi hlt; simp at hi; omega)
  refine bodyPost_ret (results_cell_cell rfl _ _ _ rfl rfl (load_blk (hb4.far (by simp) _) zb_len) (load_err (HX5.out.set 0 _))) rfl ?_
  refine ⟨?_, ho2.set (.inr (by simp; omega)) _⟩
  rw [← HCD.out]
  unfold Dk.read
  rw [if_neg (by rw [← HCD.out]; exact hc0)]

theorem results_read {D : Dk} {b : Nat} {w w' : World} (hcode : D.code (b : Int) = 0) {l : List Nat} (hl : D.look b = l) (ho : Only [] w w') : ReadS D (b : Int) w (.returned (.tuple #[.agg (bcells l).toArray, I64 0])) w' := by
  refine ⟨?_, ho⟩
  unfold Dk.read
  rw [if_pos hcode, hcode, Int.toNat_natCast, hl]

/-- Between two rounds; behind the write that was looked for. -/
def RdI (W0 : World) (l : List WB) (b : Nat) (pre : List (Fin l.length)) (W : World) : Prop :=
  (∀ y ∈ pre, (wAt l y).1 ≠ b) ∧ Below W0.heap.size W0 W
theorem below_blk {B : Nat} {w w' : World} {k : Nat} {t : TypeId} {cs : List Value} (h : Below B w w') (hb : Blk w k t cs) (hk : k < B) : Blk w' k t cs := (h.block k hk).trans hb
def RdX (w : World) (l : List WB) (b : Nat) (c : Code) (pre : List (Fin l.length)) (W : World) : Prop :=
  ∃ ini x, (((c = .ret ∧ pre = ini ++ [x] ∧ (∀ y ∈ ini, (wAt l y).1 ≠ b) ∧ (wAt l x).1 = b) ∧ Blk W (w.heap.size + 1) blkT (bcells (wAt l x).2)) ∧ Blk W (w.heap.size + 1 + 1) errT [I64 0]) ∧ Below w.heap.size w W
theorem RdI.own (W0 : World) (l : List WB) (b : Nat) : OwnFrom W0.heap.size (RdI W0 l b) :=
  OwnFrom.and (ownFrom_pure _ _) (ownFrom_below (Nat.le_refl _) (Nat.le_refl _))
theorem RdX.own (w : World) (l : List WB) (b B : Nat) (hB : w.heap.size ≤ B) (c : Code) : OwnFrom B (RdX w l b c) := fun s X Y row hs hg hr => by
  obtain ⟨ini, x, h⟩ := hs
  exact ⟨ini, x, OwnFrom.and (OwnFrom.and (OwnFrom.and (ownFrom_pure B fun (_ : Unit) => (c = .ret ∧ s = ini ++ [x] ∧ (∀ y ∈ ini, (wAt l y).1 ≠ b) ∧ (wAt l x).1 = b)) (Own.from (blk_own _ _ fun _ => bcells (wAt l x).2) _)) (Own.from (blk_own _ _ fun _ => [I64 0]) _)) (ownFrom_below (Nat.le_refl _) hB) () X Y row h hg hr⟩

def zwA : Array Value := (wcell (0, zb)).toArray
theorem zwA_info : (Try.prog.info? wrT).bind (·.zero) = some (.agg zwA) := by kernel_rfl
theorem zwA_len : zwA.toList.length = 65 := by simp [zwA, wcell_len, zb_len]
theorem wcell_one (x : WB) : ∀ v ∈ wcell x, v.oneCell' = true := by
  intro v hv
  rcases List.mem_cons.1 hv with rfl | hv
  · rfl
  · exact bcells_one _ v hv

set_option maxRecDepth 100000 in
set_option maxHeartbeats 4000000 in
theorem read_ok (base : Nat) (w : World) (p : DP) (D : Dk) (b : Nat) (h : DkAt base w p D) (hcode : D.code (b : Int) = 0) : Calls Try.prog 19 #[.pointer (some ⟨p.d, 0, none⟩), I64 (b : Nat)] w (ReadS D (b : Int) w) := by
  refine (callsIn_wide (n := 5)).1 ?_
  obtain ⟨A, cap, hvc⟩ := off_shape h.cr
  have hme := h.me
  unfold Dk.cells at hme
  obtain ⟨N, hN⟩ : ∃ N, N = D.cache.length := ⟨_, rfl⟩
  rw [hvc, ← hN] at hme
  obtain ⟨W1, hW1⟩ : ∃ W1, W1 = ((w.alloc (.cells #[I64 (b : Nat)] intT)).alloc (.cells zA blkT)).alloc (.cells #[I64 0] errT) := ⟨_, rfl⟩
  have ho : Only [] w W1 := by rw [hW1]; exact (((Only.refl [] w).alloc _).alloc _).alloc _
  have hsz : W1.heap.size = w.heap.size + 3 := by rw [hW1]; simp
  have hd1 := h.keep ho
  have HU := hide (usable_ok base W1 p D (b : Nat) hd1)
  rw [hcode] at HU
  have c1 := (ho.blk hme (by simp)).cell (i := 1) rfl
  have hlt := (ho.blk hme (by simp)).lt
  have hb3 : Blk W1 w.heap.size intT [I64 (b : Nat)] := by rw [hW1]; exact ((Blk.newA (c := #[I64 (b : Nat)]) rfl).alloc _).alloc _
  have hb4 : Blk W1 (w.heap.size + 1) blkT zA.toList := by rw [hW1]; exact (Blk.newA (by simp)).alloc _
  have hb5 : Blk W1 (w.heap.size + 1 + 1) errT [I64 0] := by rw [hW1]; exact Blk.newA (c := #[I64 0]) (by simp)
  have HB := hide (And.intro hb3 (And.intro hb4 hb5))
  have HO := hide ho
  have HC := hide hcode
  have HN := hide hN
  have HW1 := hide hW1
  have HD := hide h
  have HVC := hide hvc
  have HSZ := hide hsz
  clear h ho hb3 hb4 hb5 hcode hN hW1 hd1 hme hvc hsz
  refine callsIn_of_wp_marks Try.func19 rfl trivial ?_ rfl
  simp only [Try.ntmps19, List.size_toArray, List.length_cons, List.length_nil, Nat.reduceAdd, Nat.reduceSub, Array.replicate_succ, Array.replicate_zero, List.push_toArray, List.append_toArray, List.nil_append, List.cons_append]
  gi_wp2_with (first
    | (refine wpListIn_alloc_agg rfl blkT rfl zA zA_info ?_)
    | (refine ⟨trivial, ?_⟩; gi_at_call 46; rw [show (((w.alloc (.cells #[I64 (b : Nat)] intT)).alloc (.cells zA blkT)).alloc (.cells #[I64 0] errT)) = W1 from HW1.out.symm]; refine (callsIn_wide.2 HU.out).mono ?_; rintro e w1 ⟨rfl, rfl⟩)
    | (refine ⟨trivial, ?_⟩; gi_at_call 51; refine (callsIn_wide.2 (backward_ok A N cap _)).mono ?_; rintro e w2 ⟨rfl, rfl⟩))
  obtain ⟨W0, hW0⟩ : ∃ W0, w1.alloc (.cells #[.slice A N cap] 107) = W0 := ⟨_, rfl⟩
  have hox : Only [] w1 W0 := by rw [← hW0]; exact (Only.refl [] w1).alloc _
  have hbs : Blk W0 w1.heap.size 107 [.slice A N cap] := by rw [← hW0]; exact Blk.newA (c := #[.slice A N cap]) rfl
  have hsz0 : W0.heap.size = w.heap.size + 4 := by rw [← hW0, World.size_alloc, HSZ.out]
  rw [hW0]
  obtain ⟨g, o, hA, hg, hcell⟩ : ∃ g o, (0 < D.cache.length → A = some ⟨g, o, none⟩) ∧ g < W0.heap.size ∧ ∀ k x j v, D.cache[k]? = some x → (wcell x)[j]? = some v → W0.cell? ⟨g, o + k * 65 + j, none⟩ = some v := by
    by_cases h0 : 0 < D.cache.length
    · obtain ⟨g, o, c, cs, h1, h2, -, -⟩ := off_blk HD.out.cr h0
      have hA : A = some ⟨g, o, none⟩ := by
        have h3 := HVC.out
        rw [h1] at h3
        injection h3 with h3 _ _
        exact h3.symm
      refine ⟨g, o, fun _ => hA, by have := h2.lt; omega, fun k x j v hx hv => ?_⟩
      rw [Nat.add_assoc]
      exact off_cells (off_keep (off_keep HD.out.cr HO.out) hox) h1 _ _ (flat_at D.cache (fun y hy => wcell_len (HD.out.ok.hc y hy).2) k x j v hx hv)
    · exact ⟨0, 0, fun h => absurd h h0, by omega, fun k x j v hx _ => by
        have := (List.getElem?_eq_some_iff.1 hx).1
        omega⟩
  have hBel : Below w.heap.size w W0 := (HO.out.trans hox).below (by simp) (Nat.le_refl _)
  have HX0 := hide (And.intro hox (And.intro hbs hcell))
  have HHA := hide hA
  have HSZ0 := hide hsz0
  have HBel := hide hBel
  clear hW0 hox hbs hsz0 hcell hA hBel c1
  refine wpIn_rangeFunc_ownH (F := Fence.wide) rfl (by omega) (gf := 90) (lb := #[.pointer (some ⟨w1.heap.size, 0, none⟩)]) rfl trivial (enters_of Try.func90 (by kernel_rfl) rfl)
    (encs := fun x : Fin D.cache.length => #[I64 (x.1 : Nat), .agg (wcell (wAt D.cache x)).toArray]) (Kp := Below W0.heap.size) (S := fun ys => ys.map (wAt D.cache) = D.cache.reverse) (Sp := fun pre => pre.map (wAt D.cache) <+: D.cache.reverse) (N := D.cache.length) (w0 := W0)
    (fun lp J Jx W hW hJ hJx hY h0 => back1_in Fence.wide 4 trivial rfl (by omega) lp w1.heap.size W0.heap.size D.cache (fun x hx => (HD.out.ok.hc x hx).2) HD.out.ok.cm A cap g o HHA.out hg (by have := HSZ0.out; have := HSZ.out; omega) J Jx
      (fun pre A B hA hg => hJ pre A B none hA hg (fun r e => by cases e)) hY W ((hW.cell (p := ⟨w1.heap.size, 0, none⟩) (by show w1.heap.size < W0.heap.size; have := HSZ0.out; have := HSZ.out; omega)).trans (by rw [← HN.out]; exact HX0.out.2.1.cell (i := 0) rfl))
      (fun k x j v hx hv => (hW.cell (p := ⟨g, o + k * 65 + j, none⟩) hg).trans (HX0.out.2.2 k x j v hx hv)) h0)
    belowK_t (belowK_b (Nat.le_refl _)) (Below.refl _ _) (fun _ => rfl)
    (RdI W0 D.cache b) (RdX w D.cache b) (RdI.own W0 D.cache b) (fun c => RdX.own w D.cache b _ (by have := HSZ0.out; omega) c)
    ⟨by simp, Below.refl _ _⟩
    (fun x a' W => ∃ Bx, W0.heap.size ≤ Bx ∧ Blk W Bx wrT (wcell (wAt D.cache x)) ∧ a' = { tmps := #[.pointer (some ⟨p.d, 0, none⟩), I64 (b : Nat), undef, .pointer (some ⟨w.heap.size, 0, none⟩), .pointer (some ⟨w.heap.size + 1, 0, none⟩), .pointer (some ⟨w.heap.size + 1 + 1, 0, none⟩), I64 0, undef, .pointer (some ⟨Bx, 0, none⟩), .pointer (some ⟨p.d, 0, none⟩), I64 (b : Nat), I64 0, I64 0, .bool false, undef, undef, .pointer (some ⟨p.d, 0, none⟩), .pointer (some ⟨p.d, 0, none⟩), .pointer (some ⟨p.d, 1, none⟩), .slice A N cap, .func (.func 90) #[] #[.pointer (some ⟨w1.heap.size, 0, none⟩)], I64 (x.1 : Nat), .agg (wcell (wAt D.cache x)).toArray, undef, undef, undef, undef, undef, undef, undef, undef, undef, undef, undef, undef, undef], defers := [] })
    (fun x a' _ X Y row hs hg hr => by obtain ⟨Bx, e1, e2, e3⟩ := hs; exact ⟨Bx, e1, blk_own Bx wrT (fun (_ : Unit) => wcell (wAt D.cache x)) () X Y row e2 hg (fun r e => (hr r e).2), e3⟩)
    ?assign ?body ?done ?stop
  case assign =>
    rintro l pre x W K hI hK
    have hlen : (wcell (wAt D.cache x)).length = 65 := wcell_len (HD.out.ok.hc _ (List.getElem_mem x.2)).2
    obtain ⟨cx, hcx⟩ : ∃ cx, cx = wcell (wAt D.cache x) := ⟨_, rfl⟩
    have H1 := hide (wcell_one (wAt D.cache x))
    rw [← hcx] at hlen H1 hK ⊢
    have HL := hide hlen
    have HL2 := hide (show 0 + cx.length ≤ zwA.toList.length by rw [zwA_len, hlen]; decide)
    have HI := hide hI
    have HK := hide hK
    clear hlen hcx hI hK
    have hsW := HI.out.2.size
    go_simp
    gi_wp2_with (first
      | (refine wpListIn_alloc_agg rfl wrT rfl zwA zwA_info ?_)
      | (refine wpListIn_store_cells rfl wrT (.tmp 8) (.tmp 22) rfl W.heap.size 0 rfl cx rfl wrT zwA.toList (Blk.newA rfl) HL2.out (by rw [HL.out]; kernel_rfl) H1.out ?_; intro W2 hW2))
    have hk1 : Only [] W W2 := ((Only.refl [] W).alloc _).trans' hW2.2.1 (by intro i hi hlt; simp at hi; omega)
    have hkb : Below W0.heap.size W W2 := hk1.below (by simp) hsW
    refine HK.out _ _ (((KeepsOthers.alloc W _).trans (keeps_only (Blk.newA rfl) hW2.2.1)).from _) hkb ⟨HI.out.1, HI.out.2.trans hkb⟩ ⟨W.heap.size, hsW, ?_, rfl⟩
    refine hW2.1.to ?_
    rw [List.drop_of_length_le (by rw [zwA_len, HL.out]; decide)]
    simp
  case body =>
    rintro l pre x a' W hl ⟨r, hr⟩ hI ⟨Bx, hBx, bX, rfl⟩ hlen
    have h64 := (HD.out.ok.hc _ (List.getElem_mem x.2)).2
    obtain ⟨cx, hcx⟩ : ∃ cx, cx = wAt D.cache x := ⟨_, rfl⟩
    have h64' : cx.2.length = 64 := by rw [hcx]; exact h64
    rw [← hcx] at bX
    obtain ⟨c, bytes⟩ := cx
    have bc0 := bX.cell (i := 0) (v := I64 (c : Nat)) rfl
    have HB1 : Hid (∀ j v, (bcells bytes)[j]? = some v → W.cell? ⟨Bx, 1 + j, none⟩ = some v) := hide (fun j v hj => bX.cell (wcell_whole (x := (c, bytes)) hj))
    have hl1 : (bcells bytes).length = 64 := by rw [bcells_len]; exact h64'
    have H1 := hide (bcells_one bytes)
    obtain ⟨cb, hcb⟩ : ∃ cb, cb = bcells bytes := ⟨_, rfl⟩
    rw [← hcb] at HB1 hl1 H1
    have HL := hide hl1
    have HL2 := hide (show 0 + cb.length ≤ zA.toList.length by rw [zA_len, hl1]; decide)
    have b3 := below_blk hI.2 (HX0.out.1.blk HB.out.1 (by simp)) (by have := HSZ0.out; omega)
    have b4 := below_blk hI.2 (HX0.out.1.blk HB.out.2.1 (by simp)) (by have := HSZ0.out; omega)
    have b5 := below_blk hI.2 (HX0.out.1.blk HB.out.2.2 (by simp)) (by have := HSZ0.out; omega)
    have i3 := b3.cell (i := 0) rfl
    have hbl := HBel.out.trans (hI.2.mono (by have := HSZ0.out; omega))
    have HI := hide (And.intro b4 (And.intro b5 (And.intro hbl hI)))
    clear b3 b4 b5 hbl
    have hlB := bX.lt
    have HCX := hide hcx
    have HCB := hide hcb
    rw [← hcx]
    clear hI hl1 hcb h64 h64' bX hcx hr hl hlen
    by_cases hcbb : c = b
    · subst hcbb
      gi_wp2_with (first
        | (refine wpListIn_load_cells rfl blkT (.tmp 27) rfl Bx 1 rfl cb (d := _) HB1.out Try.underlying49 rfl (by rw [HL.out]; kernel_rfl) ?_)
        | (refine wpListIn_store_cells rfl blkT (.tmp 4) (.tmp 28) rfl (w.heap.size + 1) 0 rfl cb rfl blkT zA.toList HI.out.1 HL2.out (by rw [HL.out]; kernel_rfl) H1.out ?_; intro W2 hW2
           have hx5 : Blk W2 (w.heap.size + 1 + 1) errT [I64 0] := hW2.2.1.blk HI.out.2.1 (by simp)
           have x5 := hx5.cell (i := 0) rfl
           have z5 := hx5.frozen 0
           have HX5 := hide hx5
           have HW2 := hide hW2
           clear hW2 hx5))
      have hb4 : Blk W2 (w.heap.size + 1) blkT cb := HW2.out.1.to (by rw [List.drop_of_length_le (by rw [zA_len, HL.out]; decide)]; simp)
      have hko := keeps_only HI.out.1 HW2.out.2.1
      have hbl := HI.out.2.2.1
      have hbl2 : Below w.heap.size W W2 := HW2.out.2.1.below (by simp) hbl.size
      refine ⟨(hko.trans (KeepsOthers.setCell _ _ _)).from _, pre, x, ⟨⟨⟨rfl, rfl, HI.out.2.2.2.1, by rw [← HCX.out]⟩, ?_⟩, HX5.out.set 0 _⟩, (hbl.trans hbl2).setCell (p := ⟨w.heap.size + 1 + 1, 0, none⟩) (by simp; omega) _⟩
      rw [← HCX.out, ← HCB.out]
      exact hb4.far (by simp) _
    · have hci : ¬ ((c : Nat) : Int) = ((b : Nat) : Int) := by omega
      gi_wp2
      refine ⟨KeepsFrom.refl _ _, Below.refl _ _, ⟨?_, HI.out.2.2.2.2⟩⟩
      intro y hy
      rcases List.mem_append.1 hy with hy | hy
      · exact HI.out.2.2.2.1 y hy
      · simp at hy
        subst hy
        rw [← HCX.out]
        exact hcbb
  case done =>
    rintro D' ys W hD' hS hI hK
    have hsz := HSZ0.out
    have hoW : Only [] w W := Only.of_below (HBel.out.trans (hI.2.mono (by omega))) []
    have hdW := HD.out.keep hoW
    have hbl : b < D.bs.length := by
      have h0 := HC.out
      unfold Dk.code at h0
      split at h0
      · cases h0
      · split at h0
        · cases h0
        · omega
    obtain ⟨n2, hn2⟩ : ∃ n2, n2 = D.bs.length := ⟨_, rfl⟩
    obtain ⟨g2, o2, cc2, cells, hvb, -, -, -⟩ := hdW.ptr
    have hold : D.bs[b]? = some (D.bs[b]'hbl) := List.getElem?_eq_getElem hbl
    have hlo : (D.bs[b]'hbl).length = 64 := HD.out.ok.hb _ (List.getElem_mem hbl)
    obtain ⟨old, hol⟩ : ∃ old, old = D.bs[b]'hbl := ⟨_, rfl⟩
    rw [← hol] at hold hlo
    have hlook : D.look b = old := by
      unfold Dk.look
      rw [← hS, List.find?_eq_none.2]
      · simp [hold]
      · intro y hy
        obtain ⟨z, hz, rfl⟩ := List.mem_map.1 hy
        simpa using hI.1 z hz
    have HBC : Hid (∀ j v, (bcells old)[j]? = some v → W.cell? ⟨g2, o2 + b * 64 + j, none⟩ = some v) := hide (fun j v hj => by
      rw [Nat.add_assoc]
      exact off_cells hdW.br hvb _ _ (flat_at D.bs (fun y hy => by rw [bcells_len]; exact HD.out.ok.hb y hy) b old j v hold hj))
    have HLO : Hid ((bcells old).length = 64) := hide (by rw [bcells_len]; exact hlo)
    have H1 := hide (bcells_one old)
    have hme := hdW.me
    unfold Dk.cells at hme
    rw [hvb, ← hn2] at hme
    have c0 := hme.cell (i := 0) rfl
    have hltd := hme.lt
    have b3 := below_blk hI.2 (HX0.out.1.blk HB.out.1 (by simp)) (by omega)
    have b4 := below_blk hI.2 (HX0.out.1.blk HB.out.2.1 (by simp)) (by omega)
    have b5 := below_blk hI.2 (HX0.out.1.blk HB.out.2.2 (by simp)) (by omega)
    have i3 := b3.cell (i := 0) rfl
    obtain ⟨vs, hvs⟩ : ∃ vs, vs = bcells old := ⟨_, rfl⟩
    rw [← hvs] at HBC HLO H1
    have HL2 := hide (show 0 + vs.length ≤ zA.toList.length by rw [zA_len, HLO.out]; decide)
    have hb0 : (0 : Int) ≤ ((b : Nat) : Int) := by omega
    have hb1 : ((b : Nat) : Int) < ((n2 : Nat) : Int) := by omega
    have HLK := hide hlook
    have HVS := hide hvs
    have HLL := hide hlo
    have HB4 := hide b4
    have HB5 := hide b5
    have HOW := hide hoW
    have HK := hide hK
    have HSZ9 := hide hsz
    clear hlook hvs b4 b5 b3 hme hdW hI hS hvb hold hlo hol hoW hK hsz hn2 hbl HU HW1 HHA
    gi_wp2
    refine wpIn_wide.2 ?_
    refine wp_region_text 7 [] [] [] (fun _ => True) (by kernel_rfl) (by kernel_rfl) trivial ?_
    simp only [List.take_succ_cons, List.take_zero, List.drop_succ_cons, List.drop_zero]
    iterate 6 (first | ((refine wpText_h rfl rfl ?_; apply Exists.intro; refine ⟨?_, ?_⟩; next => (go_simp; (try (go_bits; go_simp)); (first | done | with_reducible rfl | (rw [if_neg (by omega)]; (try (go_bits; go_simp)); (first | done | with_reducible rfl)) | (rw [if_pos (by omega)]; (try (go_bits; go_simp)); (first | done | with_reducible rfl))))); (try simp only [Act.put, List.setIfInBounds_toArray, List.set_cons_zero, List.set_cons_succ])) | ((refine wpText_p rfl rfl ?_; apply Exists.intro; refine ⟨?_, ?_⟩; next => (intro w'; go_simp; (try (go_bits; go_simp)); (first | done | with_reducible rfl | (rw [if_neg (by omega)]; (try (go_bits; go_simp)); (first | done | with_reducible rfl)) | (rw [if_pos (by omega)]; (try (go_bits; go_simp)); (first | done | with_reducible rfl))))); (try simp only [Act.put, List.setIfInBounds_toArray, List.set_cons_zero, List.set_cons_succ])) | ((refine wpText_y rfl rfl ?_; apply Exists.intro; refine ⟨?_, ?_⟩; next => (intro w' hS; (first | obtain ⟨_, rfl⟩ := hS | skip); go_simp; (try (go_bits; go_simp)); (first | done | with_reducible rfl | (rw [if_neg (by omega)]; (try (go_bits; go_simp)); (first | done | with_reducible rfl)) | (rw [if_pos (by omega)]; (try (go_bits; go_simp)); (first | done | with_reducible rfl))))); (try simp only [Act.put, List.setIfInBounds_toArray, List.set_cons_zero, List.set_cons_succ])) | (refine wpText_skip (by first | exact .inl rfl | exact .inr (.inl rfl) | exact .inr (.inr rfl)) rfl ?_; (try simp only [Act.put, List.setIfInBounds_toArray, List.set_cons_zero, List.set_cons_succ])))
    refine wpText_h rfl rfl ⟨.agg vs.toArray, ?_, ?_⟩
    · exact exec_load_cells blkT (.tmp 34) rfl g2 (o2 + b * 64) rfl vs (d := _) HBC.out Try.underlying49 rfl (by rw [HLO.out]; kernel_rfl)
    try simp only [Act.put, List.setIfInBounds_toArray, List.set_cons_zero, List.set_cons_succ]
    refine wpText_nil ?_
    refine wpList_store_cells rfl blkT (.tmp 4) (.tmp 35) rfl (w.heap.size + 1) 0 rfl vs rfl blkT zA.toList HB4.out.drew HL2.out (by rw [HLO.out]; kernel_rfl) H1.out ?_
    intro W2 hW2
    have hx5 : Blk W2 (w.heap.size + 1 + 1) errT [I64 0] := hW2.2.1.blk HB5.out.drew (by simp)
    have x5 := hx5.cell (i := 0) rfl
    have z5 := hx5.frozen 0
    have hx4 : Blk W2 (w.heap.size + 1) blkT vs := hW2.1.to (by rw [List.drop_of_length_le (by rw [zA_len, HLO.out]; decide)]; simp)
    have hD2 : W2.heap[D']? = some (.deferred (some [])) := (keeps_only HB4.out.drew hW2.2.1).same D' _ HK.out rfl
    have ho2 : Only [] w W2 := HOW.out.drew.trans' hW2.2.1 (by intro i hi hlt; simp at hi; omega)
    have HX := hide (And.intro hx5 (And.intro hx4 (And.intro hD2 ho2)))
    clear hx5 hx4 hD2 ho2 hW2
    simp only [Act.put]
    go_wp2
    refine NoX.normal ?_
    gi_wp2
    have hK2 : (W2.setCell ⟨w.heap.size + 1 + 1, 0, none⟩ (I64 0)).heap[D']? = some (.deferred (some [])) := (KeepsOthers.setCell W2 _ _).same D' _ HX.out.2.2.1 rfl
    have h5 := (HX.out.1.set 0 (I64 0)).put' (.deferred none) hK2 rfl
    have h4 := (HX.out.2.1.far (p := ⟨w.heap.size + 1 + 1, 0, none⟩) (by simp) (I64 0)).put' (.deferred none) hK2 rfl
    have ho3 : Only [] w (W2.setCell ⟨w.heap.size + 1 + 1, 0, none⟩ (I64 0)) := HX.out.2.2.2.set (.inr (by simp; omega)) _
    have hb9 : Below w.heap.size w (W2.setCell ⟨w.heap.size + 1 + 1, 0, none⟩ (I64 0)) := ho3.below (by simp) (Nat.le_refl _)
    rw [HVS.out] at h4
    refine ⟨by simp, .inl ⟨_, _, rfl, run_takeDeferred hK2, ?_⟩⟩
    exact ⟨_, results_cell_cell rfl _ _ _ rfl rfl (load_blk h4 HLL.out) (load_err h5), results_read HC.out HLK.out (Only.of_below (hb9.grown (grownBy_putObj' _ D' _) hb9.size (fun k e => by cases e; have := HSZ9.out; omega)) [])⟩
  case stop =>
    rintro D' c pre W hD' hSp ⟨ini, x, ⟨⟨⟨rfl, hpre, hno, heq⟩, h4⟩, h5⟩, hbl⟩ hK
    have hsz := HSZ0.out
    have hlook : D.look b = (wAt D.cache x).2 := by
      obtain ⟨rest, hr⟩ := hSp
      unfold Dk.look
      rw [← hr, hpre, List.map_append, List.append_assoc, List.find?_append, List.find?_eq_none.2]
      · simp [heq]
      · intro y hy
        obtain ⟨z, hz, rfl⟩ := List.mem_map.1 hy
        simpa using hno z hz
    gi_wp2
    refine ⟨by simp, .inl ⟨_, _, rfl, run_takeDeferred hK, ?_⟩⟩
    exact ⟨_, results_cell_cell rfl _ _ _ rfl rfl (load_blk (h4.put' _ hK rfl) (HD.out.ok.hc _ (List.getElem_mem x.2)).2) (load_err (h5.put' _ hK rfl)), results_read HC.out hlook (Only.of_below (hbl.grown (grownBy_putObj' W D' _) hbl.size (fun k e => by cases e; omega)) [])⟩

theorem read_all (base : Nat) (w : World) (p : DP) (D : Dk) (b : Int) (h : DkAt base w p D) : Calls Try.prog 19 #[.pointer (some ⟨p.d, 0, none⟩), I64 b] w (ReadS D b w) := by
  by_cases hc : D.code b = 0
  · have h0 : 0 ≤ b := by
      unfold Dk.code at hc
      split at hc
      · cases hc
      · split at hc
        · cases hc
        · omega
    obtain ⟨n, rfl⟩ := Int.eq_ofNat_of_zero_le h0
    exact read_ok base w p D n h hc
  · exact read_bad base w p D b h hc

end Go.Proofs.Ytabdahojgmbgdaa
