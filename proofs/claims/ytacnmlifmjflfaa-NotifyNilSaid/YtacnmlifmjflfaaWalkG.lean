/- Update. -/
import Derived.Test.YtacnmlifmjflfaaWalkF
namespace Go.Proofs.Ytacnmlifmjflfaa
open Go.RowKit

def Tab.updErr (o c : Int) : Int := if numb o = false then 34 else if c < 0 ∨ 15 < c then 14 else 0
def presU (pres : Int → Int) (o c : Int) : Int → Int := fun j => if j = o then c else pres j
def Tab.updA (T : Tab) (o c : Int) : List Armd × (List Frd × List Armd) := takeS (fun _ x => goes o (bandn c (T.pres o)) x) (firedS o (bandn c (T.pres o))) [] T.arms
def Tab.updW (T : Tab) (o c : Int) : List Wtr × (List (Int × List Int) × List Wtr) := takeS (fun _ x => wakes (presU T.pres o c) x) (wokeS (presU T.pres o c)) [] T.wts
def Tab.upd (T : Tab) (o c : Int) : (List Frd × List (Int × List Int) × Int) × Tab :=
  if Tab.updErr o c ≠ 0 then (([], [], Tab.updErr o c), T)
  else (((T.updA o c).2.1, (T.updW o c).2.1, 0), { T with pres := presU T.pres o c, arms := (T.updA o c).1, wts := (T.updW o c).1 })

theorem Tab.upd_err {T : Tab} {o c e : Int} (h : Tab.updErr o c = e) (he : e ≠ 0) : T.upd o c = (([], [], e), T) := by
  unfold Tab.upd
  rw [h, if_pos he]

/-- What Update answers, and leaves. -/
def UpdS (base q b m : Nat) (r : (List Frd × List (Int × List Int) × Int) × Tab) (w : World) (e : Ending) (w' : World) : Prop :=
  ∃ vf vw, e = .returned (.tuple #[vf, vw, I64 r.1.2.2]) ∧ TabIs base q b (m + 1) r.2 w' ∧ w'.ownsRow base 73 7 vf r.1.1.length (r.1.1.flatMap encfired) ∧ WokenRow w' base vw r.1.2.1 ∧ OnlyM b tabTs base w w'

theorem TabIs.more {base q b m m' : Nat} {T : Tab} {w : World} (h : TabIs base q b m T w) (hm : m ≤ m') : TabIs base q b m' T w := by
  obtain ⟨va, vw, k⟩ := h
  exact ⟨va, vw, k.me, k.map.mono hm, k.arms, k.wts, k.ins, k.baseq, k.baseb⟩

theorem kept_mem {σ α : Type} {p : σ → α → Bool} {f : σ → α → σ} : ∀ {xs : List α} {s : σ} {x : α}, x ∈ (keepS p f s xs).1 → x ∈ xs
  | [], s, x, h => by simp [keepS] at h
  | y :: ys, s, x, h => by
    rw [keepS] at h
    split at h
    · exact List.mem_cons_of_mem _ (kept_mem h)
    · rcases List.mem_cons.1 h with rfl | h
      · simp
      · exact List.mem_cons_of_mem _ (kept_mem h)
theorem taken_mem {σ α : Type} (p : σ → α → Bool) (f : σ → α → σ) (s : σ) (xs : List α) (x : α) (h : x ∈ (takeS p f s xs).1) : x ∈ xs := kept_mem h

theorem own_ne_map {w : World} {base b m n sz : Nat} {T : TypeId} {v : Value} {f : Int → Int} {xs : List Value} (h : w.ownsRow base T sz v n xs) (hm : PMap w b m f) : v.ownBlock ≠ some b := by
  intro hk
  obtain ⟨-, c, t, fr, hc, -⟩ := own_hasT (Ts := [T]) h (by simp) (Nat.le_refl _) b hk
  exact hm.noT [t] ⟨c, t, fr, hc, by simp⟩

theorem TabAt.grownMap {base q b m m' : Nat} {T : Tab} {va vw : Value} {w w' : World} {f : Int → Int} (h : TabAt base q b m T va vw w) (hp : PMap w' b m' f) (hg : w.grownBy w' (some b)) : TabAt base q b m' { T with pres := f } va vw w' :=
  ⟨h.me.grown hg (by have := h.map.ne h.me; simpa using this), hp, h.arms.kept hg (.inr (own_ne_map h.arms h.map)), h.wts.kept hg (.inr (own_ne_map h.wts h.map)), fun x hx => (h.ins x hx).kept hg (.inr (own_ne_map (h.ins x hx) h.map)), h.baseq, h.baseb⟩
theorem TabAt.only {base q b m : Nat} {T : Tab} {va vw : Value} {w w' : World} (h : TabAt base q b m T va vw w) (ho : Only [] w w') : TabAt base q b m T va vw w' :=
  ⟨ho.blk h.me (by simp), h.map.only ho, own_nil h.arms ho, own_nil h.wts ho, fun x hx => own_nil (h.ins x hx) ho, h.baseq, h.baseb⟩

/-- What the walk of Update needs of a table. -/
structure Tab.Fit (T : Tab) : Prop where
  arms : T.arms.length ≤ 100000
  wts : T.wts.length ≤ 100000
  ins : ∀ x ∈ T.wts, (∀ y ∈ x.ins, wf64 y.1) ∧ x.ins.length ≤ 1000

abbrev mapT : TypeId := 74
set_option maxRecDepth 100000 in
set_option maxHeartbeats 4000000 in
theorem Update_ok (base q b m : Nat) (T : Tab) (o c : Int) (w : World) (h : TabIs base q b m T w) (hf : T.Fit) (hbw : base ≤ w.heap.size) (hx : wf64 o) (hc : wf64 c) (hm : m ≤ 100000) :
    Calls Try.prog 12 #[.pointer (some ⟨q, 0, none⟩), I64 o, I64 c] w fun e w' => UpdS base q b m (T.upd o c) w e w' := by
  have HF := hide hf
  have TI := hide h
  have h2 := h.only (((Only.refl [] w).alloc (Obj.cells #[.pointer (some ⟨q, 0, none⟩)] 24)).alloc (Obj.cells #[I64 o] 3))
  have hoW := ((Only.refl [] w).alloc (Obj.cells #[.pointer (some ⟨q, 0, none⟩)] 24)).alloc (Obj.cells #[I64 o] 3)
  have hb1 : Blk ((w.alloc (Obj.cells #[.pointer (some ⟨q, 0, none⟩)] 24)).alloc (Obj.cells #[I64 o] 3)) w.heap.size 24 [.pointer (some ⟨q, 0, none⟩)] := (Blk.newA (c := #[.pointer (some ⟨q, 0, none⟩)]) rfl).alloc _
  have hb2 : Blk ((w.alloc (Obj.cells #[.pointer (some ⟨q, 0, none⟩)] 24)).alloc (Obj.cells #[I64 o] 3)) (w.heap.size + 1) 3 [I64 o] := Blk.newA (c := #[I64 o]) (by show w.heap.size + 1 = (w.heap.push _).size; rw [Array.size_push])
  have hsz : ((w.alloc (Obj.cells #[.pointer (some ⟨q, 0, none⟩)] 24)).alloc (Obj.cells #[I64 o] 3)).heap.size = w.heap.size + 2 := by
    show ((w.heap.push _).push _).size = _
    rw [Array.size_push, Array.size_push]
  clear h hf
  have HH := hide (show _ ∧ _ ∧ _ ∧ _ ∧ _ from ⟨h2, hoW, hb1, hb2, hsz⟩)
  clear h2 hoW hb1 hb2 hsz
  go_enter Try.func12, Try.ntmps12
  go_wp2_with fail
  refine (number_ok _ _).mono ?_
  rintro e w1 ⟨rfl, rfl⟩
  revert HH
  generalize (w.alloc (Obj.cells #[.pointer (some ⟨q, 0, none⟩)] 24)).alloc (Obj.cells #[I64 o] 3) = W
  intro HH
  obtain ⟨h2, hoW, hb1, hb2, hsz⟩ := HH.out
  have hend : ∀ e, e ≠ 0 → Tab.updErr o c = e → UpdS base q b m (T.upd o c) w (.returned (.tuple #[.slice none 0 0, .slice none 0 0, I64 e])) W := fun e he hu => by
    rw [Tab.upd_err hu he]
    exact ⟨_, _, rfl, h2.more (by omega), World.ownsRow_nil _ _ _ _, WokenRow.nil _ _, .of (.of_nil hoW)⟩
  have HE := hide hend
  have t0 := hb1.cell (i := 0) rfl
  have o0 := hb2.cell (i := 0) rfl
  clear hend
  by_cases a1 : numb o = false
  · have hu : Hid (Tab.updErr o c = 34) := hide (by unfold Tab.updErr; rw [if_pos a1])
    clear h2 hoW hb1 hb2 hsz
    go_wp2
    go_ret3
    exact HE.out 34 (by decide) hu.out
  have a1' : numb o = true := by simpa using a1
  clear a1
  by_cases a2 : c < 0
  · have hu : Hid (Tab.updErr o c = 14) := hide (by unfold Tab.updErr; rw [if_neg (by simp [a1']), if_pos (.inl a2)])
    clear h2 hoW hb1 hb2 hsz
    go_wp2
    go_ret3
    exact HE.out 14 (by decide) hu.out
  by_cases a3 : 15 < c
  · have hu : Hid (Tab.updErr o c = 14) := hide (by unfold Tab.updErr; rw [if_neg (by simp [a1']), if_pos (.inr a3)])
    clear h2 hoW hb1 hb2 hsz
    go_wp2
    go_ret3
    exact HE.out 14 (by decide) hu.out
  have HU : Hid (T.upd o c = (((T.updA o c).2.1, (T.updW o c).2.1, 0), { T with pres := presU T.pres o c, arms := (T.updA o c).1, wts := (T.updW o c).1 })) := hide (by
    unfold Tab.upd
    rw [if_neg]
    unfold Tab.updErr; rw [if_neg (by simp [a1']), if_neg (by omega)]; simp)
  clear HE
  obtain ⟨va, vw, K⟩ := h2
  have q1 := K.me.cell (i := 1) rfl
  have hlk : (Instr.lookup 74 (.map (some b)) (.int .i64 o) false).run Try.prog W.drew = .ok (.int .i64 (T.pres o)) W.drew := ((show PMap W.drew b m T.pres from K.map).look hx).1
  have hlk2 : ∀ v, (Instr.lookup 74 (.map (some b)) (.int .i64 o) false).run Try.prog (W.drew.alloc v) = .ok (.int .i64 (T.pres o)) (W.drew.alloc v) := fun v => (((show PMap W.drew b m T.pres from K.map).alloc v).look hx).1
  have hqlt := K.me.lt
  have hW1 := hb1.lt
  have hW2 := hb2.lt
  have HK := hide K
  have HB := hide (show _ ∧ _ ∧ _ ∧ _ from ⟨hoW, hb1, hb2, hsz⟩)
  clear K hoW hb1 hb2 hsz HH TI
  go_wp2
  refine wp_region_text 9 [8] [0, 2, 3, 7] [1, 4, 5, 6] (fun w' => w'.cell? ⟨w.heap.size, 0, none⟩ = some (.pointer (some ⟨q, 0, none⟩)) ∧ w'.cell? ⟨q, 1, none⟩ = some (.map (some b)) ∧ w'.cell? ⟨w.heap.size + 1, 0, none⟩ = some (I64 o) ∧ (Instr.lookup mapT (.map (some b)) (.int .i64 o) false).run Try.prog w' = .ok (.int .i64 (T.pres o)) w') (by kernel_rfl) (by kernel_rfl) ⟨t0, q1, o0, hlk⟩ ?_
  simp only [List.take_succ_cons, List.take_zero, List.drop_succ_cons, List.drop_zero]
  repeat (first | ((refine wpText_h rfl rfl ?_; apply Exists.intro; refine ⟨?_, ?_⟩; next => (go_simp; (try (go_bits; go_simp)); (first | done | with_reducible rfl | (rw [if_neg (by omega)]; (try (go_bits; go_simp)); (first | done | with_reducible rfl)) | (rw [if_pos (by omega)]; (try (go_bits; go_simp)); (first | done | with_reducible rfl))))); (try simp only [Act.put, List.setIfInBounds_toArray, List.set_cons_zero, List.set_cons_succ])) | ((refine wpText_p rfl rfl ?_; apply Exists.intro; refine ⟨?_, ?_⟩; next => (intro w'; go_simp; (try (go_bits; go_simp)); (first | done | with_reducible rfl | (rw [if_neg (by omega)]; (try (go_bits; go_simp)); (first | done | with_reducible rfl)) | (rw [if_pos (by omega)]; (try (go_bits; go_simp)); (first | done | with_reducible rfl))))); (try simp only [Act.put, List.setIfInBounds_toArray, List.set_cons_zero, List.set_cons_succ])) | ((refine wpText_y rfl rfl ?_; apply Exists.intro; refine ⟨?_, ?_⟩; next => (intro w' hS; (first | obtain ⟨_, rfl⟩ := hS | skip); go_simp; (try (go_bits; go_simp)); (first | done | with_reducible rfl | (rw [if_neg (by omega)]; (try (go_bits; go_simp)); (first | done | with_reducible rfl)) | (rw [if_pos (by omega)]; (try (go_bits; go_simp)); (first | done | with_reducible rfl))))); (try simp only [Act.put, List.setIfInBounds_toArray, List.set_cons_zero, List.set_cons_succ])) | (refine wpText_skip (by first | exact .inl rfl | exact .inr (.inl rfl) | exact .inr (.inr rfl)) rfl ?_; (try simp only [Act.put, List.setIfInBounds_toArray, List.set_cons_zero, List.set_cons_succ])))
  refine wpText_e rfl rfl (fun K hK => ?_)
  go_wp2
  refine hK _ _ ⟨by go_simp, by go_simp, by go_simp, hlk2 _⟩ ?_
  clear hK K
  (try simp only [Act.put, List.setIfInBounds_toArray, List.set_cons_zero, List.set_cons_succ])
  repeat (first | ((refine wpText_h rfl rfl ?_; apply Exists.intro; refine ⟨?_, ?_⟩; next => (go_simp; (try (go_bits; go_simp)); (first | done | with_reducible rfl | (rw [if_neg (by omega)]; (try (go_bits; go_simp)); (first | done | with_reducible rfl)) | (rw [if_pos (by omega)]; (try (go_bits; go_simp)); (first | done | with_reducible rfl))))); (try simp only [Act.put, List.setIfInBounds_toArray, List.set_cons_zero, List.set_cons_succ])) | ((refine wpText_p rfl rfl ?_; apply Exists.intro; refine ⟨?_, ?_⟩; next => (intro w'; go_simp; (try (go_bits; go_simp)); (first | done | with_reducible rfl | (rw [if_neg (by omega)]; (try (go_bits; go_simp)); (first | done | with_reducible rfl)) | (rw [if_pos (by omega)]; (try (go_bits; go_simp)); (first | done | with_reducible rfl))))); (try simp only [Act.put, List.setIfInBounds_toArray, List.set_cons_zero, List.set_cons_succ])) | ((refine wpText_y rfl rfl ?_; apply Exists.intro; refine ⟨?_, ?_⟩; next => (intro w' hS; (first | obtain ⟨_, rfl⟩ := hS | skip); go_simp; (try (go_bits; go_simp)); (first | done | with_reducible rfl | (rw [if_neg (by omega)]; (try (go_bits; go_simp)); (first | done | with_reducible rfl)) | (rw [if_pos (by omega)]; (try (go_bits; go_simp)); (first | done | with_reducible rfl))))); (try simp only [Act.put, List.setIfInBounds_toArray, List.set_cons_zero, List.set_cons_succ])) | (refine wpText_skip (by first | exact .inl rfl | exact .inr (.inl rfl) | exact .inr (.inr rfl)) rfl ?_; (try simp only [Act.put, List.setIfInBounds_toArray, List.set_cons_zero, List.set_cons_succ])))
  refine wpText_nil ?_
  clear hlk hlk2
  go_wp2
  refine NoX.normal ?_
  have hoV : Only [] W (W.alloc (Obj.cells #[Value.int IntKind.i64 (bits BinOp.andNot IntKind.i64 c (T.pres o))] 3)).drew := ((Only.refl [] W).alloc _).drew
  have hb3 : Blk (W.alloc (Obj.cells #[Value.int IntKind.i64 (bits BinOp.andNot IntKind.i64 c (T.pres o))] 3)).drew W.heap.size 3 [I64 (bits BinOp.andNot IntKind.i64 c (T.pres o))] := (Blk.newA (c := #[Value.int IntKind.i64 (bits BinOp.andNot IntKind.i64 c (T.pres o))]) rfl).drew
  have hs3 : (W.alloc (Obj.cells #[Value.int IntKind.i64 (bits BinOp.andNot IntKind.i64 c (T.pres o))] 3)).drew.heap.size = W.heap.size + 1 := by
    show (W.heap.push _).size = _
    rw [Array.size_push]
  revert hoV hb3 hs3
  generalize (W.alloc (Obj.cells #[Value.int IntKind.i64 (bits BinOp.andNot IntKind.i64 c (T.pres o))] 3)).drew = V
  intro hoV hb3 hs3
  have hme := hoV.blk HK.out.me (by simp)
  have hmp := HK.out.map.only hoV
  have q1V := hme.cell (i := 1) rfl
  have t0V := (hoV.blk HB.out.2.1 (by simp)).cell (i := 0) rfl
  have o0V := (hoV.blk HB.out.2.2.1 (by simp)).cell (i := 0) rfl
  obtain ⟨V2, hst, hp2, hg2⟩ := (show PMap V.drew b m T.pres from hmp).store (by unfold maxLen; omega) hx hc
  have HV := hide (show _ ∧ _ ∧ _ ∧ _ ∧ _ ∧ _ from ⟨hoV, hb3, hs3, hme, hp2, hg2⟩)
  clear hoV hb3 hs3 hme hmp hp2 hg2 t0 q1 o0
  go_wp2
  refine wp_region_text 6 [] [] [] (fun _ => True) (by kernel_rfl) (by kernel_rfl) trivial ?_
  simp only [List.take_succ_cons, List.take_zero, List.drop_succ_cons, List.drop_zero]
  repeat (first | ((refine wpText_h rfl rfl ?_; apply Exists.intro; refine ⟨?_, ?_⟩; next => (go_simp; (try (go_bits; go_simp)); (first | done | with_reducible rfl | (rw [if_neg (by omega)]; (try (go_bits; go_simp)); (first | done | with_reducible rfl)) | (rw [if_pos (by omega)]; (try (go_bits; go_simp)); (first | done | with_reducible rfl))))); (try simp only [Act.put, List.setIfInBounds_toArray, List.set_cons_zero, List.set_cons_succ])) | ((refine wpText_p rfl rfl ?_; apply Exists.intro; refine ⟨?_, ?_⟩; next => (intro w'; go_simp; (try (go_bits; go_simp)); (first | done | with_reducible rfl | (rw [if_neg (by omega)]; (try (go_bits; go_simp)); (first | done | with_reducible rfl)) | (rw [if_pos (by omega)]; (try (go_bits; go_simp)); (first | done | with_reducible rfl))))); (try simp only [Act.put, List.setIfInBounds_toArray, List.set_cons_zero, List.set_cons_succ])) | ((refine wpText_y rfl rfl ?_; apply Exists.intro; refine ⟨?_, ?_⟩; next => (intro w' hS; (first | obtain ⟨_, rfl⟩ := hS | skip); go_simp; (try (go_bits; go_simp)); (first | done | with_reducible rfl | (rw [if_neg (by omega)]; (try (go_bits; go_simp)); (first | done | with_reducible rfl)) | (rw [if_pos (by omega)]; (try (go_bits; go_simp)); (first | done | with_reducible rfl))))); (try simp only [Act.put, List.setIfInBounds_toArray, List.set_cons_zero, List.set_cons_succ])) | (refine wpText_skip (by first | exact .inl rfl | exact .inr (.inl rfl) | exact .inr (.inr rfl)) rfl ?_; (try simp only [Act.put, List.setIfInBounds_toArray, List.set_cons_zero, List.set_cons_succ])))
  refine wpText_nil ?_
  go_wp2
  refine NoX.normal ?_
  have hne3 : ∀ {k : Nat} {t : TypeId} {cs : List Value}, Blk V k t cs → Blk V2 k t cs := fun hk => (show Blk V.drew _ _ _ from hk).grown HV.out.2.2.2.2.2 (by have := HK.out.map.only HV.out.1; have := this.ne hk; simpa using this)
  have hT2 : TabAt base q b (m + 1) { T with pres := presU T.pres o c } va vw V2 := (show TabAt base q b m T va vw V.drew from (HK.out.only (Only.trans HV.out.1 ((Only.refl [] V).drew)))).grownMap HV.out.2.2.2.2.1 HV.out.2.2.2.2.2
  have hM2 : OnlyM b tabTs base w V2 := ((OnlyM.of (.of_nil (Only.trans HB.out.1 HV.out.1))).trans (OnlyM.of (.of_nil ((Only.refl [] V).drew)))).trans (.grown HV.out.2.2.2.2.2)
  have tb2 := hne3 (HV.out.1.blk HB.out.2.1 (by simp))
  have ob2 := hne3 (HV.out.1.blk HB.out.2.2.1 (by simp))
  have cm2 := hne3 HV.out.2.1
  have hs2 : w.heap.size + 3 ≤ V2.heap.size := by
    have h1 := HV.out.2.2.2.2.2.size
    have h2 := HV.out.2.2.1
    have h3 := HB.out.2.2.2
    have h4 : V.drew.heap.size = V.heap.size := rfl
    omega
  rw [show W.heap.size = w.heap.size + 2 from HB.out.2.2.2] at cm2 ⊢
  have H2 := hide (show _ ∧ _ ∧ _ ∧ _ ∧ _ from ⟨hT2, hM2, tb2, ob2, cm2⟩)
  have t0 := tb2.cell (i := 0) rfl
  have hql : q < V2.heap.size := hT2.me.lt
  clear hne3 hT2 hM2 tb2 ob2 cm2 HV HB HK q1V t0V o0V hst hqlt hW1 hW2
  clear V W
  have hlt1 : w.heap.size < V2.heap.size := by omega
  have ha3 : Only [] V2 (V2.alloc (Obj.cells #[Value.slice none 0 0] 33)) := (Only.refl [] V2).alloc _
  have hfb : Blk (V2.alloc (Obj.cells #[Value.slice none 0 0] 33)) V2.heap.size 33 [.slice none 0 0] := Blk.newA rfl
  have hT3 := H2.out.1.only ha3
  have hsz3 := ha3.size
  have hfire : FiresS base q (w.heap.size + 1) (w.heap.size + 2) V2.heap.size 100000 o (bandn c (T.pres o)) [] (V2.alloc (Obj.cells #[Value.slice none 0 0] 33)) :=
    ⟨ha3.blk H2.out.2.2.2.1 (by simp), ha3.blk H2.out.2.2.2.2 (by simp), by omega, by simp, by omega, ⟨_, hT3.me⟩, _, hfb, World.ownsRow_nil _ _ _ _⟩
  have htk := takearmed_ok base q 2 T.arms.length _ _ _ _ _ _ _ _ T.arms [] va _ _ (wantU1 base q (w.heap.size + 1) (w.heap.size + 2) V2.heap.size 100000 o (bandn c (T.pres o)) (by omega)) (fun _ _ => trivial) (by decide) hfire (by omega) hT3.baseq hT3.me rfl hT3.arms rfl (by have := HF.out.arms; omega) (by have := HF.out.arms; simp; omega)
    (fun s w u hR => hR.table u) (fun x v hv => by simp [encarmed] at hv; rcases hv with rfl | rfl | rfl | rfl | rfl | rfl | rfl | rfl | rfl <;> rfl)
  have HTK := hide htk
  have H3 := hide (show _ ∧ _ from ⟨ha3, hT3⟩)
  clear htk ha3 hfb hT3 hfire
  go_wp2_with fail
  refine HTK.out.mono ?_
  rintro e w4 ⟨vo, va4, rfl, k1, k2, k3, -, k5⟩
  have hT4 : TabAt base q b (m + 1) { T with pres := presU T.pres o c, arms := (T.updA o c).1 } va4 vw w4 :=
    ⟨k2, H3.out.2.map.onlyT k5, k3, k5.own H3.out.2.wts (by decide), fun x hx => k5.own (H3.out.2.ins x hx) (by decide), H3.out.2.baseq, H3.out.2.baseb⟩
  have hM4 : OnlyM b tabTs base w w4 := (H2.out.2.1.trans (.of (.of_nil H3.out.1))).trans (.of (k5.mono (by decide)))
  have tb4 : Blk w4 w.heap.size 24 [.pointer (some ⟨q, 0, none⟩)] := k5.blk (H3.out.1.blk H2.out.2.2.1 (by simp)) (by decide)
  have hs4 : V2.heap.size < w4.heap.size := by
    have h1 := (H2.out.2.1.trans (OnlyM.of (.of_nil H3.out.1))).size
    have h2 := k5.size
    have h3 : (V2.alloc (Obj.cells #[Value.slice none 0 0] 33)).heap.size = V2.heap.size + 1 := by show (V2.heap.push _).size = _; rw [Array.size_push]
    omega
  have H4 := hide (show _ ∧ _ ∧ _ ∧ _ from ⟨hT4, hM4, tb4, k1⟩)
  have t4 := tb4.cell (i := 0) rfl
  clear hT4 hM4 tb4 k1 k2 k3 k5 t0 HTK H2 H3 hql
  have hlt4 : w.heap.size < w4.heap.size := by omega
  have ha5 : Only [] w4 (w4.alloc (Obj.cells #[Value.slice none 0 0] 34)) := (Only.refl [] w4).alloc _
  have hwb : Blk (w4.alloc (Obj.cells #[Value.slice none 0 0] 34)) w4.heap.size 34 [.slice none 0 0] := Blk.newA rfl
  have hT5 := H4.out.1.only ha5
  have hsz5 := ha5.size
  have hql4 : q < w4.heap.size := H4.out.1.me.lt
  have hwoke : WokeS base q b (m + 1) w.heap.size w4.heap.size 100000 (presU T.pres o c) T.wts [] (w4.alloc (Obj.cells #[Value.slice none 0 0] 34)) :=
    ⟨ha5.blk H4.out.2.2.1 (by simp), ⟨_, hT5.me, rfl⟩, hT5.map, by omega, by simp, by omega, ⟨_, hwb, WokenRow.nil _ _⟩, hT5.ins⟩
  have htk := takewaiter_ok base q 3 T.wts.length _ _ _ _ _ _ _ _ T.wts [] vw _ _ (wantU2 base q b (m + 1) w.heap.size w4.heap.size 100000 (presU T.pres o c) T.wts (by omega)) (fun x hx => ⟨hx, HF.out.ins x hx⟩) (by decide) hwoke (by omega) hT5.baseq hT5.me rfl hT5.wts rfl (by have := HF.out.wts; omega) (by have := HF.out.wts; simp; omega)
    (fun s w u hR => hR.table (by decide) u) (fun x v hv => by simp [encwaiter] at hv; rcases hv with rfl | rfl | rfl <;> rfl)
  have HTK := hide htk
  have H5 := hide (show _ ∧ _ from ⟨ha5, hT5⟩)
  clear htk ha5 hwb hT5 hwoke
  go_wp2_with fail
  refine HTK.out.mono ?_
  rintro e w6 ⟨vo6, vw6, rfl, k1, k2, k3, -, k5⟩
  have hT6 : TabAt base q b (m + 1) { T with pres := presU T.pres o c, arms := (T.updA o c).1, wts := (T.updW o c).1 } va4 vw6 w6 :=
    ⟨k2, H5.out.2.map.onlyT k5, k5.own H5.out.2.arms (by decide), k3, fun x hx => k5.own (H5.out.2.ins x (taken_mem _ _ _ _ _ hx)) (by decide), H5.out.2.baseq, H5.out.2.baseb⟩
  have hM6 : OnlyM b tabTs base w w6 := (H4.out.2.1.trans (.of (.of_nil H5.out.1))).trans (.of (k5.mono (by decide)))
  obtain ⟨-, -, -, -, -, -, vf, f1, f2⟩ := H4.out.2.2.2
  obtain ⟨-, -, -, -, -, -, ⟨vwo, g1, g2⟩, -⟩ := k1
  have f1' := k5.blk (H5.out.1.blk f1 (by simp)) (by decide)
  have f2' := k5.own (own_nil f2 H5.out.1) (by decide)
  have e1 := f1'.cell (i := 0) rfl
  have e2 := g1.cell (i := 0) rfl
  obtain ⟨Af, cf, rfl⟩ := own_shape f2'
  obtain ⟨ls, g2a, g2b, g2c⟩ := g2
  obtain ⟨Aw, cw, rfl⟩ := own_shape g2b
  have H6 := hide (show _ ∧ _ ∧ _ ∧ _ from ⟨hT6, hM6, f2', (show WokenRow w6 base _ _ from ⟨ls, g2a, g2b, g2c⟩)⟩)
  clear hT6 hM6 f1 f2 f1' f2' g1 g2a g2b g2c k2 k3 k5 HTK H5 H4 t4
  go_wp2
  refine wp_region_text 5 [] [] [] (fun _ => True) (by kernel_rfl) (by kernel_rfl) trivial ?_
  simp only [List.take_succ_cons, List.take_zero, List.drop_succ_cons, List.drop_zero]
  repeat (first | ((refine wpText_h rfl rfl ?_; apply Exists.intro; refine ⟨?_, ?_⟩; next => (go_simp; (try (go_bits; go_simp)); (first | done | with_reducible rfl | (rw [if_neg (by omega)]; (try (go_bits; go_simp)); (first | done | with_reducible rfl)) | (rw [if_pos (by omega)]; (try (go_bits; go_simp)); (first | done | with_reducible rfl))))); (try simp only [Act.put, List.setIfInBounds_toArray, List.set_cons_zero, List.set_cons_succ])) | ((refine wpText_p rfl rfl ?_; apply Exists.intro; refine ⟨?_, ?_⟩; next => (intro w'; go_simp; (try (go_bits; go_simp)); (first | done | with_reducible rfl | (rw [if_neg (by omega)]; (try (go_bits; go_simp)); (first | done | with_reducible rfl)) | (rw [if_pos (by omega)]; (try (go_bits; go_simp)); (first | done | with_reducible rfl))))); (try simp only [Act.put, List.setIfInBounds_toArray, List.set_cons_zero, List.set_cons_succ])) | ((refine wpText_y rfl rfl ?_; apply Exists.intro; refine ⟨?_, ?_⟩; next => (intro w' hS; (first | obtain ⟨_, rfl⟩ := hS | skip); go_simp; (try (go_bits; go_simp)); (first | done | with_reducible rfl | (rw [if_neg (by omega)]; (try (go_bits; go_simp)); (first | done | with_reducible rfl)) | (rw [if_pos (by omega)]; (try (go_bits; go_simp)); (first | done | with_reducible rfl))))); (try simp only [Act.put, List.setIfInBounds_toArray, List.set_cons_zero, List.set_cons_succ])) | (refine wpText_skip (by first | exact .inl rfl | exact .inr (.inl rfl) | exact .inr (.inr rfl)) rfl ?_; (try simp only [Act.put, List.setIfInBounds_toArray, List.set_cons_zero, List.set_cons_succ])))
  refine wpText_nil ?_
  go_wp2
  refine NoX.normal ?_
  go_wp2
  go_ret3
  rw [HU.out]
  exact ⟨_, _, rfl, ⟨_, _, H6.out.1.only ((Only.refl [] w6).drew)⟩, H6.out.2.2.1, H6.out.2.2.2, H6.out.2.1.trans (.of (.of_nil ((Only.refl [] w6).drew)))⟩

end Go.Proofs.Ytacnmlifmjflfaa
