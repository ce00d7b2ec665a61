/- Write. -/
import Derived.Test.YtabdahojgmbgdaaWalkE
namespace Go.Proofs.Ytabdahojgmbgdaa
open Go.RowKit

theorem off_weak {w : World} {base b0 : Nat} {e : TypeId} {size n : Nat} {v : Value} {xs : List Value} (h : offRow w base e size v n xs) (hb : b0 ≤ base) : offRow w b0 e size v n xs := by
  refine ⟨h.1, ?_⟩
  rcases h.2 with h2 | ⟨g, o, cap, cs, h1, h2, h3⟩
  · exact .inl h2
  · exact .inr ⟨g, o, cap, cs, h1, Nat.le_trans hb h2, h3⟩

def Dk.put (D : Dk) (b : Nat) (x : List Nat) : Dk := { D with cache := D.cache ++ [(b, x)], wr := Go.RowKit.wrap64 (D.wr + 1) }
/-- What Write does. -/
def Dk.write (D : Dk) (b : Int) (x : List Nat) : Dk × Int :=
  if D.code b ≠ 0 then (D, D.code b) else if 4096 ≤ D.cache.length then (D, 18) else
  if D.left = 0 then (D.put b.toNat x, 0) else if D.left = 1 then (({ D.put b.toNat x with left := 0 } : Dk).cut D.script, 15) else ({ D.put b.toNat x with left := D.left - 1 }, 0)

theorem code_zero {D : Dk} {b : Int} (h : D.code b = 0) : D.off = false ∧ 0 ≤ b ∧ b < (D.bs.length : Int) := by
  unfold Dk.code at h
  split at h
  · cases h
  · rename_i h1
    split at h
    · cases h
    · exact ⟨by simpa using h1, by omega, by omega⟩

theorem wr_info : (Try.prog.info? wrT).map (fun i => (i.zero, i.size, i.bytes)) = some (some (.agg zwA), 65, 72) := by kernel_rfl
theorem built_wr (b : Int) (x : List Nat) (hx : x.length = 64) : Try.prog.built wrT [(0, I64 b), (1, .agg (bcells x).toArray)] = some (I64 b :: bcells x).toArray := by
  obtain ⟨i, hi, hz, hs, -⟩ := info_parts wr_info
  exact build_two _ Try.underlying114 i hi (.agg zwA) hz zwA_len [(0, 1), (1, 64)] (by kernel_rfl) rfl rfl (I64 b) rfl (bcells x) (by rw [bcells_len, hx])

theorem zwA_size : zwA.size = 65 := by have := zwA_len; simpa using this
theorem fill_wr (i0 : TypeInfo) (hs : i0.size = 65) (z : Array Value) (cs : List Value) (hl : cs.length = 65) :
    Instr.fill (fun i => some (i * i0.size, i0.size)) ((Array.range (1 * i0.size)).map (z[· % z.size]!)) [(0, .agg cs.toArray)] = some cs.toArray := by
  have h := Great.fill_whole (s := 65) (by decide) [.agg cs.toArray] ((Array.range (1 * 65)).map (z[· % z.size]!)) (by simp [Value.cells, hl]) (by simp)
  rw [hs]
  simpa [Value.cells] using h

structure WriteS (base : Nat) (p : DP) (D : Dk) (b : Int) (x : List Nat) (w : World) (e : Ending) (w' : World) : Prop where
  ret : e = .returned (I64 (D.write b x).2)
  at' : ∃ p', p'.d = p.d ∧ p'.vb = p.vb ∧ DkAt base w' p' (D.write b x).1 ∧ ∀ k ∈ p'.foot, k ∈ p.foot ∨ w.heap.size ≤ k
  only : Only p.foot w w'

set_option maxRecDepth 20000 in
set_option maxHeartbeats 1000000 in
theorem write_refuse (base : Nat) (w : World) (p : DP) (D : Dk) (b : Int) (x : List Nat) (h : DkAt base w p D) (hx : x.length = 64) (hr : D.code b ≠ 0 ∨ 4096 ≤ D.cache.length) :
    Calls Try.prog 15 #[.pointer (some ⟨p.d, 0, none⟩), I64 b, .agg (bcells x).toArray] w (WriteS base p D b x w) := by
  obtain ⟨cs, hcs⟩ : ∃ cs, cs = bcells x := ⟨_, rfl⟩
  rw [← hcs]
  have ho : Only [] w (w.alloc (.cells cs.toArray blkT)) := (Only.refl _ _).alloc _
  have hk := h.keep ho
  have HU := hide (usable_ok base _ p D b hk)
  obtain ⟨A, cap, hvc⟩ := off_shape h.cr
  obtain ⟨n, hn⟩ : ∃ n, n = D.cache.length := ⟨_, rfl⟩
  have hme := hk.me
  unfold Dk.cells at hme
  rw [hvc, ← hn] at hme
  have c1 := hme.cell (i := 1) rfl
  have hlt := hme.lt
  have HK := hide (And.intro hk ho)
  have hmost := h.ok.cm
  have HN := hide hn
  obtain ⟨cd, hcd⟩ : ∃ cd, cd = D.code b := ⟨_, rfl⟩
  rw [← hcd] at HU hr
  have HCD := hide hcd
  have hn4 : n ≤ 4096 := by omega
  rw [← hn] at hr
  clear h ho hk hvc hme hcs hx hn hcd hmost
  by_cases h0 : cd = 0
  · subst h0
    obtain rfl : n = 4096 := by rcases hr with hr | hr; exact absurd rfl hr; omega
    clear hr
    go_enter Try.func15, Try.ntmps15
    go_wp2_with (go_at_call 46; refine HU.out.mono ?_; rintro e w1 ⟨rfl, rfl⟩)
    go_ret
    have hw : D.write b x = (D, 18) := by
      unfold Dk.write
      rw [if_neg (by rw [← HCD.out]; decide), if_pos (by rw [← HN.out]; exact Nat.le_refl _)]
    exact ⟨by rw [hw]; rfl, ⟨p, rfl, rfl, by rw [hw]; exact HK.out.1, fun k hk => .inl hk⟩, HK.out.2.mono (by simp)⟩
  · go_enter Try.func15, Try.ntmps15
    go_wp2_with (go_at_call 46; refine HU.out.mono ?_; rintro e w1 ⟨rfl, rfl⟩)
    go_ret
    have hw : D.write b x = (D, cd) := by
      unfold Dk.write
      rw [if_pos (by rw [← HCD.out]; exact h0), HCD.out]
    exact ⟨by rw [hw]; rfl, ⟨p, rfl, rfl, by rw [hw]; exact HK.out.1, fun k hk => .inl hk⟩, HK.out.2.mono (by simp)⟩

theorem DkOk.put {D : Dk} (h : DkOk D) {b : Nat} {x : List Nat} (hb : b < D.bs.length) (hx : x.length = 64) (hc : D.cache.length < 4096) : DkOk (D.put b x) := by
  refine ⟨h.hb, ?_, h.pos, h.most, by simp [Dk.put]; omega, h.sm, h.s8, h.lf⟩
  intro y hy
  rcases List.mem_append.1 hy with hy | hy
  · exact h.hc y hy
  · simp at hy; subst hy; exact ⟨hb, hx⟩
theorem DkOk.left {D : Dk} (h : DkOk D) {n : Int} (h0 : 0 ≤ n) (h1 : n ≤ 1073741824) : DkOk { D with left := n } := ⟨h.hb, h.hc, h.pos, h.most, h.cm, h.sm, h.s8, ⟨h0, h1⟩⟩
/-- A cell of the disk turns: what does not hang on it stays. -/
theorem DkAt.cellT {base : Nat} {w : World} {p : DP} {D E : Dk} (h : DkAt base w p D) (i : Nat) (v : Value) (hc : E.cells p = (D.cells p).set i v) (hb : E.bs = D.bs) (hcache : E.cache = D.cache) (hs : E.script = D.script) (ok : DkOk E) : DkAt base (w.setCell ⟨p.d, i, none⟩ v) p E := by
  refine ⟨?_, ?_, ?_, ?_, ok⟩
  · rw [hc]; exact h.me.set i v
  · rw [hb]; exact off_set h.br (off_ne_blk h.br h.me (by decide)) _
  · rw [hcache]; exact off_set h.cr (off_ne_blk h.cr h.me (by decide)) _
  · rw [hs]; exact off_set h.sr (off_ne_blk h.sr h.me (by decide)) _
theorem Only.app {S T : List Nat} {a w c : World} (h : Only S a w) (k : Only T w c) : Only (S ++ T) a c := (h.mono (by simp; intro k hk _; exact .inl hk)).trans (k.mono (by simp; intro k hk _; exact .inr hk))

set_option maxRecDepth 20000 in
set_option maxHeartbeats 2000000 in
theorem write_go (base : Nat) (w : World) (p : DP) (D : Dk) (b : Nat) (x : List Nat) (h : DkAt base w p D) (hbase : base ≤ w.heap.size) (hx : x.length = 64) (hcode : D.code (b : Int) = 0) (hc4 : D.cache.length < 4096) :
    Calls Try.prog 15 #[.pointer (some ⟨p.d, 0, none⟩), I64 (b : Nat), .agg (bcells x).toArray] w (WriteS base p D (b : Int) x w) := by
  obtain ⟨cs, hcs⟩ : ∃ cs, cs = bcells x := ⟨_, rfl⟩
  have HBW := hide (built_wr (b : Int) x hx)
  have H1 := hide (bcells_one x)
  have hl : cs.length = 64 := by rw [hcs, bcells_len, hx]
  rw [← hcs] at HBW H1
  rw [← hcs]
  have ho : Only [] w (w.alloc (.cells cs.toArray blkT)) := (Only.refl _ _).alloc _
  have hk := h.keep ho
  have HU := hide (usable_ok base _ p D (b : Nat) hk)
  rw [hcode] at HU
  have HBX : Hid (∀ j v, cs[j]? = some v → (w.alloc (.cells cs.toArray blkT)).drew.cell? ⟨w.heap.size, 0 + j, none⟩ = some v) := hide (fun j v hj => by rw [Nat.zero_add]; exact (Blk.newA (c := cs.toArray) rfl : Blk _ _ _ _).cell hj)
  obtain ⟨A, cap, hvc⟩ := off_shape h.cr
  obtain ⟨n, hn⟩ : ∃ n, n = D.cache.length := ⟨_, rfl⟩
  obtain ⟨W1, hW1⟩ : ∃ W1, W1 = w.alloc (.cells cs.toArray blkT) := ⟨_, rfl⟩
  rw [← hW1] at hk ho HU HBX
  have hme := hk.me
  unfold Dk.cells at hme
  rw [hvc, ← hn] at hme
  have c1 := hme.cell (i := 1) rfl
  have hlt := hme.lt
  have HK := hide (And.intro hk ho)
  have HN := hide hn
  have HC := hide hcode
  have HL := hide hl
  have HCS := hide hcs
  have HVC := hide hvc
  have HX := hide hx
  have HW1 := hide hW1
  have hn4 : n < 4096 := by omega
  clear h ho hk hvc hme hcs hx hn hcode hl hW1 hc4
  go_enter Try.func15, Try.ntmps15
  go_wp2_with (go_at_call 46; rw [show w.alloc (.cells cs.toArray blkT) = W1 from HW1.out.symm]; refine HU.out.mono ?_; rintro e w1 ⟨rfl, rfl⟩)
  refine wp_region_text 9 [8] [0, 1, 2, 3] [4] (fun w' => w'.cell? ⟨p.d, 1, none⟩ = some (.slice A n cap)) (by kernel_rfl) (by kernel_rfl) c1 ?_
  simp only [List.take_succ_cons, List.take_zero, List.drop_succ_cons, List.drop_zero]
  iterate 6 (first | ((refine wpText_h rfl rfl ?_; apply Exists.intro; refine ⟨?_, ?_⟩; next => (go_simp; (try (go_bits; go_simp)); (first | done | with_reducible rfl | (rw [if_neg (by omega)]; (try (go_bits; go_simp)); (first | done | with_reducible rfl)) | (rw [if_pos (by omega)]; (try (go_bits; go_simp)); (first | done | with_reducible rfl))))); (try simp only [Act.put, List.setIfInBounds_toArray, List.set_cons_zero, List.set_cons_succ])) | ((refine wpText_p rfl rfl ?_; apply Exists.intro; refine ⟨?_, ?_⟩; next => (intro w'; go_simp; (try (go_bits; go_simp)); (first | done | with_reducible rfl | (rw [if_neg (by omega)]; (try (go_bits; go_simp)); (first | done | with_reducible rfl)) | (rw [if_pos (by omega)]; (try (go_bits; go_simp)); (first | done | with_reducible rfl))))); (try simp only [Act.put, List.setIfInBounds_toArray, List.set_cons_zero, List.set_cons_succ])) | ((refine wpText_y rfl rfl ?_; apply Exists.intro; refine ⟨?_, ?_⟩; next => (intro w' hS; (first | obtain ⟨_, rfl⟩ := hS | skip); go_simp; (try (go_bits; go_simp)); (first | done | with_reducible rfl | (rw [if_neg (by omega)]; (try (go_bits; go_simp)); (first | done | with_reducible rfl)) | (rw [if_pos (by omega)]; (try (go_bits; go_simp)); (first | done | with_reducible rfl))))); (try simp only [Act.put, List.setIfInBounds_toArray, List.set_cons_zero, List.set_cons_succ])) | (refine wpText_skip (by first | exact .inl rfl | exact .inr (.inl rfl) | exact .inr (.inr rfl)) rfl ?_; (try simp only [Act.put, List.setIfInBounds_toArray, List.set_cons_zero, List.set_cons_succ])))
  refine wpText_h rfl rfl ⟨.agg cs.toArray, ?_, ?_⟩
  · exact exec_load_cells blkT (.tmp 5) rfl w.heap.size 0 rfl cs (d := _) HBX.out Try.underlying49 rfl (by rw [HL.out]; kernel_rfl)
  try simp only [Act.put, List.setIfInBounds_toArray, List.set_cons_zero, List.set_cons_succ]
  refine wpText_h rfl rfl ⟨.agg (I64 (b : Int) :: cs).toArray, ?_, ?_⟩
  · exact exec_build wrT #[(0, .tmp 25), (1, .tmp 26)] rfl _ _ (by simp only [List.map_toArray, List.map_cons, List.map_nil]; rfl) HBW.out
  try simp only [Act.put, List.setIfInBounds_toArray, List.set_cons_zero, List.set_cons_succ]
  obtain ⟨i0, hi0, hz0, hs0, hb0⟩ := info_parts wr_info
  obtain ⟨nw, hnw⟩ : ∃ nw, nw = I64 (b : Int) :: cs := ⟨_, rfl⟩
  have HNL : Hid (nw.length = 65) := hide (by rw [hnw, List.length_cons, HL.out])
  have HN1 : Hid (∀ u ∈ nw, u.oneCell' = true) := hide (by
    rw [hnw]
    intro u hu
    rcases List.mem_cons.1 hu with rfl | hu
    · rfl
    · exact H1.out u hu)
  have HNW : Hid (nw = wcell (b, x)) := hide (by rw [hnw, HCS.out]; rfl)
  rw [← hnw]
  refine wpText_e rfl rfl (fun K hK => ?_)
  refine wp_buildSlice 107 wrT 1 #[(0, .tmp 27)] rfl nw.toArray i0 (.agg zwA) Try.underlying107 hi0 hz0 (by rw [hs0]; decide) (by rw [hs0]; decide) (by simp only [List.map_toArray, List.map_cons, List.map_nil]; exact fill_wr i0 hs0 zwA nw HNL.out) ?_
  have hoA : Only [] w1.drew (w1.drew.alloc (.cells nw.toArray wrT)) := (Only.refl _ _).alloc _
  refine hK _ _ ((hoA.blk HK.out.1.me.drew (by simp)).cell (i := 1) (by unfold Dk.cells; rw [HVC.out, ← HN.out]; rfl)) ?_
  clear hK K hnw
  try simp only [Act.put, List.setIfInBounds_toArray, List.set_cons_zero, List.set_cons_succ]
  have HR := hide (off_keep (off_keep HK.out.1.cr ((Only.refl [] w1).drew)) hoA)
  rw [HVC.out, ← HN.out] at HR
  have hnews : ∀ j u, nw[j]? = some u → (w1.drew.alloc (.cells nw.toArray wrT)).cell? ((⟨w1.heap.size, 0, none⟩ : Addr).add j) = some u := by
    intro j u hu
    rw [addr_add, Nat.zero_add]
    exact (Blk.newA (c := nw.toArray) (by simp) : Blk _ _ _ _).cell hu
  have HNE := hide hnews
  have hb9 : base ≤ (w1.drew.alloc (.cells nw.toArray wrT)).heap.size := Nat.le_trans hbase (Nat.le_trans HK.out.2.size hoA.size)
  have HB9 := hide hb9
  have HOA := hide hoA
  clear hoA hnews hb9
  refine wpText_nil ?_
  go_wp2_with (
    at_builtin
    refine wpList_append_off _ rfl (.tmp 24) (.tmp 28) 107 rfl wrT i0 (.agg zwA) 65 72 Try.underlying107 hi0 hz0 hs0 hb0 zwA_size (by decide) base (.slice A n cap) n (D.cache.flatMap wcell) rfl HR.out HB9.out ⟨w1.heap.size, 0, none⟩ 1 1 nw rfl HNL.out HNE.out HN1.out (by simp only [maxLen]; omega) (by omega) ?_
    intro v2 w2 hr2 ho2 hown2
    obtain ⟨A2, cp2, rfl⟩ := off_shape hr2
    have HR2 := hide (And.intro hr2 (And.intro ho2 hown2))
    have me2 : Blk w2 p.d dskT (D.cells p) := ho2.blk (HOA.out.blk HK.out.1.me.drew (by simp)) (fun hm => off_ne_blk HR.out (HOA.out.blk HK.out.1.me.drew (by simp)) (by decide) (mem_own.1 hm))
    have d1 := me2.cell (i := 1) (v := .slice A n cap) (by unfold Dk.cells; rw [HVC.out, ← HN.out]; rfl)
    have d3 := me2.cell (i := 3) (v := I64 D.left) rfl
    have d5 := me2.cell (i := 5) (v := .int .i64 D.wr) rfl
    have f1 := fun i => me2.frozen i
    have lt2 := me2.lt
    have ME2 := hide me2
    clear hr2 ho2 hown2 me2)
  refine NoX.normal ?_
  obtain ⟨W3, hW3⟩ : ∃ W3, W3 = w2.setCell ⟨p.d, 1, none⟩ (.slice A2 (n + 1) cp2) := ⟨_, rfl⟩
  obtain ⟨p2, hp2⟩ : ∃ p2 : DP, p2 = { p with vc := .slice A2 (n + 1) cp2 } := ⟨_, rfl⟩
  obtain ⟨E0, hE0⟩ : ∃ E0 : Dk, E0 = { D with cache := D.cache ++ [(b, x)] } := ⟨_, rfl⟩
  have hcode := code_zero HC.out
  have hok : DkOk (D.put b x) := HK.out.1.ok.put (by omega) HX.out (by rw [← HN.out]; exact hn4)
  have hD3 : DkAt base W3 p2 E0 := by
    obtain ⟨hr2, ho2, -⟩ := HR2.out
    have hkA := (HK.out.1.keep ((Only.refl [] w1).drew)).keep HOA.out
    have hoc : Only p.vc.ownBlock.toList (w1.drew.alloc (.cells nw.toArray wrT)) w2 := by rw [HVC.out, ← HN.out]; exact ho2
    rw [hW3, hp2, hE0]
    refine ⟨?_, ?_, ?_, ?_, ⟨hok.hb, hok.hc, hok.pos, hok.most, hok.cm, hok.sm, hok.s8, hok.lf⟩⟩
    · exact ME2.out.set 1 _
    · have h1 := off_apart hkA.br hkA.cr (by decide) hoc
      exact off_set h1 (off_ne_blk h1 ME2.out (by decide)) _
    · have h1 := off_set hr2 (off_ne_blk hr2 ME2.out (by decide)) (p := ⟨p.d, 1, none⟩) (.slice A2 (n + 1) cp2)
      rw [List.flatMap_append, List.length_append, ← HN.out]
      simpa [← HNW.out] using h1
    · have h1 := off_apart hkA.sr hkA.cr (by decide) hoc
      exact off_set h1 (off_ne_blk h1 ME2.out (by decide)) _
  have ho3 : Only p.foot w W3 := by
    obtain ⟨-, ho2, -⟩ := HR2.out
    rw [hW3]
    refine ((((HK.out.2.drew.trans HOA.out).mono (by simp)).trans (ho2.mono ?_)).set (.inl p.foot_d) _)
    intro k hk _
    exact p.foot_c (by rw [HVC.out, ← HN.out]; exact mem_own.1 hk)
  have hfoot : ∀ k ∈ p2.foot, k ∈ p.foot ∨ w.heap.size ≤ k := by
    obtain ⟨-, -, hown⟩ := HR2.out
    intro k hk
    rw [hp2] at hk
    simp only [DP.foot, List.mem_cons, List.mem_append] at hk ⊢
    rcases hk with hk | hk | hk | hk
    · exact .inl (.inl hk)
    · exact .inl (.inr (.inl hk))
    · rcases hown with h1 | h1
      · rw [h1] at hk
        exact .inl (.inr (.inr (.inl (by rw [HVC.out, ← HN.out]; exact hk))))
      · have h2 := h1 k (mem_own.1 hk)
        have h3 := HOA.out.size
        have h4 := HK.out.2.size
        simp at h2
        exact .inr (by omega)
    · exact .inl (.inr (.inr (.inr hk)))
  have HP : Hid (p2.d = p.d ∧ p2.vb = p.vb ∧ p2.vs = p.vs) := hide (by rw [hp2]; exact ⟨rfl, rfl, rfl⟩)
  have HE : Hid (E0.off = false ∧ E0.left = D.left ∧ E0.script = D.script ∧ E0.wr = D.wr ∧ D.put b x = { E0 with wr := Go.RowKit.wrap64 (E0.wr + 1) }) := hide (by rw [hE0]; exact ⟨hcode.1, rfl, rfl, rfl, rfl⟩)
  have hE0o := HE.out.1
  have e3 := hD3.me.cell (i := 3) rfl
  have e4 := hD3.me.cell (i := 4) rfl
  have e5 := hD3.me.cell (i := 5) rfl
  have f9 := fun i => hD3.me.frozen i
  have hltW := hD3.me.lt
  rw [HP.out.1] at e3 e4 e5 f9 hltW
  have hDw : D.write (b : Int) x = if D.left = 0 then (D.put b x, 0) else if D.left = 1 then (({ D.put b x with left := 0 } : Dk).cut D.script, 15) else ({ D.put b x with left := D.left - 1 }, 0) := by
    unfold Dk.write
    rw [if_neg (by rw [HC.out]; decide), if_neg (by rw [← HN.out]; omega), Int.toNat_natCast]
  have HWR := hide hDw
  have HD3 := hide hD3
  have HO3 := hide ho3
  have HFT := hide hfoot
  have hlf := HK.out.1.ok.lf
  have HOK := hide hok
  obtain ⟨lf, hlfe⟩ : ∃ lf, lf = D.left := ⟨_, rfl⟩
  rw [HE.out.2.1, ← hlfe] at e3
  rw [← hlfe] at HWR hlf
  have HLF := hide hlfe
  rw [← hW3]
  obtain ⟨As, csz, hvs⟩ := off_shape hD3.sr
  obtain ⟨ns, hns⟩ : ∃ ns, ns = E0.script.length := ⟨_, rfl⟩
  rw [hvs, ← hns] at e4
  have HVS := hide hvs
  have HNS := hide hns
  clear hW3 hp2 hE0 hcode hok hD3 ho3 hfoot hDw hlfe hvs hns d1 d3 d5 f1 lt2 ME2 HR2 HOA HB9 HNE HR HNW HN1 HNL hi0 hz0 hs0 hb0 c1 hlt HU HBX HBW H1 hE0o
  obtain ⟨W4, hW4⟩ : ∃ W4, W4 = W3.setCell ⟨p.d, 5, none⟩ (.int .i64 (Go.RowKit.wrap64 (E0.wr + 1))) := ⟨_, rfl⟩
  have hD4 : DkAt base W4 p2 (D.put b x) := by
    rw [hW4, HE.out.2.2.2.2, ← HP.out.1]
    refine HD3.out.cellT 5 _ rfl rfl rfl rfl ?_
    rw [← HE.out.2.2.2.2]
    exact HOK.out
  have ho4 : Only p.foot w W4 := by rw [hW4]; exact HO3.out.set (.inl p.foot_d) _
  have HD4 := hide hD4
  have HO4 := hide ho4
  have HW4 := hide hW4
  have g3 := hD4.me.cell (i := 3) rfl
  have g4 := hD4.me.cell (i := 4) rfl
  have g9 := fun i => hD4.me.frozen i
  have hltX := hD4.me.lt
  rw [HP.out.1] at g3 g4 g9 hltX
  have es : (D.put b x).script = E0.script := by rw [HE.out.2.2.2.2]
  have el : (D.put b x).left = lf := by rw [HLF.out]; rfl
  rw [HVS.out, ← HNS.out] at g4
  rw [el] at g3
  clear hD4 ho4 hW4 es el
  by_cases h0 : lf = 0
  · have HW : Hid (D.write (b : Int) x = (D.put b x, 0)) := hide (by rw [HWR.out, if_pos h0])
    subst h0
    clear HWR
    go_wp2
    go_ret
    have e1 := HW4.out
    rw [← e1]
    exact ⟨by rw [HW.out]; rfl, ⟨p2, HP.out.1, HP.out.2.1, by rw [HW.out]; exact HD4.out, HFT.out⟩, HO4.out⟩
  · by_cases h1 : lf = 1
    · have HW : Hid (D.write (b : Int) x = (({ D.put b x with left := 0 } : Dk).cut D.script, 15)) := hide (by rw [HWR.out, if_neg h0, if_pos h1])
      subst h1
      obtain ⟨W5, hW5⟩ : ∃ W5, W5 = W4.setCell ⟨p.d, 3, none⟩ (I64 0) := ⟨_, rfl⟩
      have hD5 : DkAt base W5 p2 { D.put b x with left := 0 } := by
        rw [hW5, ← HP.out.1]
        exact HD4.out.cellT 3 _ rfl rfl rfl rfl (HOK.out.left (Int.le_refl _) (by decide))
      have ho5 : Only p.foot w W5 := by rw [hW5]; exact HO4.out.set (.inl p.foot_d) _
      have hsc : E0.script = D.script := HE.out.2.2.1
      have HCUT : Hid (Calls Try.prog 18 #[.pointer (some ⟨p.d, 0, none⟩), .slice As ns csz] W5 (CutS base p2 { D.put b x with left := 0 } D.script W5)) := hide (by
        have h := cut_ok base W5 p2 { D.put b x with left := 0 } D.script p2.vs hD5 (off_weak hD5.sr (Nat.zero_le _)) HK.out.1.ok.s8 HK.out.1.ok.sm
        rw [HP.out.1, HVS.out, ← HNS.out] at h
        exact h)
      have HW5 : Hid (W5 = (W3.setCell ⟨p.d, 5, none⟩ (.int .i64 (Go.RowKit.wrap64 (E0.wr + 1)))).setCell ⟨p.d, 3, none⟩ (I64 0)) := hide (by rw [hW5, HW4.out])
      have HO5 := hide ho5
      clear hD5 ho5 hW5 hsc HWR
      go_wp2_with (go_at_call 18; rw [show (W3.setCell ⟨p.d, 5, none⟩ (.int .i64 (Go.RowKit.wrap64 (E0.wr + 1)))).setCell ⟨p.d, 3, none⟩ (.int .i64 0) = W5 from HW5.out.symm]; refine HCUT.out.mono ?_; rintro e w6 ⟨rfl, hD6, hO6⟩; have H6 := hide (And.intro hD6 hO6); clear hD6 hO6)
      go_ret
      obtain ⟨hD6, hO6⟩ := H6.out
      have hoff : ({ D.put b x with left := 0 } : Dk).off = false := (code_zero HC.out).1
      rw [if_neg (by rw [hoff]; decide)] at hD6
      refine ⟨by rw [HW.out]; rfl, ⟨p2.dark, HP.out.1, HP.out.2.1, by rw [HW.out]; exact hD6, ?_⟩, ?_⟩
      · intro k hk
        refine HFT.out k ?_
        simp [DP.foot, DP.dark, Value.ownBlock] at hk ⊢
        rcases hk with hk | hk
        · exact .inl hk
        · exact .inr (.inl hk)
      · refine HO5.out.trans (hO6.mono ?_)
        intro k hk _
        rw [HP.out.1, HP.out.2.1] at hk
        simp [DP.foot] at hk ⊢
        rcases hk with hk | hk
        · exact .inl hk
        · exact .inr (.inl hk)
    · have HW : Hid (D.write (b : Int) x = ({ D.put b x with left := lf - 1 }, 0)) := hide (by rw [HWR.out, if_neg h0, if_neg h1])
      have h2 : 2 ≤ lf := by omega
      have h3 := hlf.2
      have h4 : ¬ lf - 1 = 0 := by omega
      clear HWR
      go_wp2
      go_ret
      have e1 := HW4.out
      rw [← e1]
      have hD5 : DkAt base (W4.setCell ⟨p.d, 3, none⟩ (I64 (lf - 1))) p2 { D.put b x with left := lf - 1 } := by
        rw [← HP.out.1]
        exact HD4.out.cellT 3 _ rfl rfl rfl rfl (HOK.out.left (by omega) (by omega))
      exact ⟨by rw [HW.out]; rfl, ⟨p2, HP.out.1, HP.out.2.1, by rw [HW.out]; exact hD5, HFT.out⟩, HO4.out.set (.inl p.foot_d) _⟩

theorem write_all (base : Nat) (w : World) (p : DP) (D : Dk) (b : Int) (x : List Nat) (h : DkAt base w p D) (hbase : base ≤ w.heap.size) (hx : x.length = 64) :
    Calls Try.prog 15 #[.pointer (some ⟨p.d, 0, none⟩), I64 b, .agg (bcells x).toArray] w (WriteS base p D b x w) := by
  by_cases hc : D.code b = 0
  · by_cases h4 : D.cache.length < 4096
    · obtain ⟨n, rfl⟩ := Int.eq_ofNat_of_zero_le (code_zero hc).2.1
      exact write_go base w p D n x h hbase hx hc h4
    · exact write_refuse base w p D b x h hx (.inr (by omega))
  · exact write_refuse base w p D b x h hx (.inl hc)

end Go.Proofs.Ytabdahojgmbgdaa
