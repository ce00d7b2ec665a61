/- The map of conditions; the table; New, number, add. -/
import Derived.Test.YtacnmlifmjflfaaTookArmed
import Derived.Test.YtacnmlifmjflfaaTookWaiter
import Derived.Maps.OwnSet
import Derived.Maps.OwnOps
import Derived.Laws.Entries
namespace Go.Proofs.Ytacnmlifmjflfaa
open Go.RowKit

abbrev wf64 (k : Int) : Prop := (Lit.int .i64 k).wf = true
theorem wf64_of {k : Int} (h1 : -9223372036854775808 ≤ k) (h2 : k ≤ 9223372036854775807) : wf64 k := by
  simp [wf64, Lit.wf, IntKind.min, IntKind.max, IntKind.signed, IntKind.bits]; omega

theorem kint : Maps.Keyed Try.prog 3 := Maps.int_keyed (q := .i64) Try.underlying3

/-- Block b is a map of at most m entries that answers f. -/
def PMap (w : World) (b m : Nat) (f : Int → Int) : Prop :=
  ∃ n, ∃ D : DataW Unit, n ≤ m ∧ w.ownsMap Try.prog 3 (plainElem Try.prog 3) b n D ∧ ∀ k, wf64 k → D.atKey (.int .i64 k) (.lit (.int .i64 0)) = .lit (.int .i64 (f k))

theorem PMap.made (w : World) (m : Nat) : PMap (w.alloc (.map #[] 0)) w.heap.size m (fun _ => 0) :=
  ⟨0, .map [], Nat.zero_le _, World.ownsMap_made _ _ _ _, fun k _ => rfl⟩
theorem PMap.lt {w : World} {b m : Nat} {f : Int → Int} (h : PMap w b m f) : b < w.heap.size := by
  obtain ⟨n, D, _, h, _⟩ := h; exact h.lt
theorem PMap.same {w w' : World} {b m : Nat} {f : Int → Int} (h : PMap w b m f) (e : w'.heap[b]? = w.heap[b]?) : PMap w' b m f := by
  obtain ⟨n, D, hn, ⟨es, clock, hb, r⟩, ha⟩ := h
  exact ⟨n, D, hn, ⟨es, clock, e.trans hb, r⟩, ha⟩
theorem PMap.heap {w : World} {b m : Nat} {f : Int → Int} (h : PMap w b m f) : ∃ es clock, w.heap[b]? = some (.map es clock) := by
  obtain ⟨n, D, hn, ⟨es, clock, hb, r⟩, ha⟩ := h
  exact ⟨es, clock, hb⟩
theorem PMap.ne {w : World} {b m g : Nat} {f : Int → Int} {T : TypeId} {cs : List Value} (h : PMap w b m f) (hg : Blk w g T cs) : b ≠ g := by
  rintro rfl
  obtain ⟨es, clock, hb⟩ := h.heap
  unfold Blk at hg
  rw [hg] at hb
  cases hb
theorem PMap.noT {w : World} {b m : Nat} {f : Int → Int} (h : PMap w b m f) (Ts : List TypeId) : ¬ HasT w b Ts := by
  rintro ⟨c, t, fr, hc, -⟩
  obtain ⟨es, clock, hb⟩ := h.heap
  rw [hc] at hb
  cases hb
theorem PMap.onlyT {w w' : World} {b m base : Nat} {f : Int → Int} {Ts : List TypeId} (h : PMap w b m f) (ho : OnlyT Ts base w w') : PMap w' b m f := h.same (ho.block b h.lt (.inr (h.noT Ts)))
theorem PMap.only {w w' : World} {b m : Nat} {f : Int → Int} (h : PMap w b m f) (ho : Only [] w w') : PMap w' b m f := h.same (ho.block b h.lt (by simp))
theorem PMap.alloc {w : World} {b m : Nat} {f : Int → Int} (h : PMap w b m f) (o : Obj) : PMap (w.alloc o) b m f := h.only ((Only.refl [] w).alloc o)
theorem PMap.set {w : World} {b m : Nat} {f : Int → Int} (h : PMap w b m f) {a : Addr} (ha : b ≠ a.block) (u : Value) : PMap (w.setCell a u) b m f := h.same (Below.heap_setCell _ _ _ _ ha)
theorem PMap.mono {w : World} {b m m' : Nat} {f : Int → Int} (h : PMap w b m f) (hm : m ≤ m') : PMap w b m' f := by
  obtain ⟨n, D, hn, h⟩ := h
  exact ⟨n, D, Nat.le_trans hn hm, h⟩
theorem PMap.ext {w : World} {b m : Nat} {f g : Int → Int} (h : PMap w b m f) (hm : ∀ k, wf64 k → f k = g k) : PMap w b m g := by
  obtain ⟨n, D, hn, h, ha⟩ := h
  exact ⟨n, D, hn, h, fun k hk => by rw [ha k hk, hm k hk]⟩

theorem PMap.look {w : World} {b m : Nat} {f : Int → Int} (h : PMap w b m f) {k : Int} (hk : wf64 k) :
    (Instr.lookup 74 (.map (some b)) (.int .i64 k) false).run Try.prog w = .ok (.int .i64 (f k)) w ∧ wf64 (f k) := by
  obtain ⟨n, D, hn, h, ha⟩ := h
  obtain ⟨c, h1, h2, h3⟩ := h.lookup_int kint (t := 74) (e := 3) (q := .i64) Try.underlying74 Try.underlying3 (by kernel_rfl) (Maps.keyOf_int_mk Try.underlying3 hk)
  rw [ha k hk] at h2
  injection h2 with h2
  injection h2 with _ h2
  subst h2
  exact ⟨h1, h3⟩

theorem PMap.store {w : World} {b m : Nat} {f : Int → Int} (h : PMap w b m f) {k c : Int} (hm : m < maxLen) (hk : wf64 k) (hc : wf64 c) :
    ∃ w', (Instr.mapUpdate 74 (.map (some b)) (.int .i64 k) (.int .i64 c)).run Try.prog w = .ok () w' ∧ PMap w' b (m + 1) (fun j => if j = k then c else f j) ∧ w.grownBy w' (some b) := by
  obtain ⟨n, D, hn, h, ha⟩ := h
  obtain ⟨w', h1, h2, h3⟩ := h.store kint (t := 74) (e := 3) Try.underlying74 (by omega) (Maps.keyOf_int_mk Try.underlying3 hk) (plainElem_int Try.underlying3 hc)
  refine ⟨w', h1, ⟨n + 1, _, by omega, h2, fun j hj => ?_⟩, h3.grown⟩
  by_cases e : j = k
  · subst e
    show _ = DataW.lit (Lit.int .i64 (if j = j then c else f j))
    rw [if_pos rfl]
    exact Maps.atKey_put_same h.isMap (show WideAt.IsKeyLit (.int .i64 j) by simp [WideAt.IsKeyLit]) _ _
  · show _ = DataW.lit (Lit.int .i64 (if j = k then c else f j))
    rw [if_neg e, Maps.atKey_put_other (fun hh => e (by injection hh))]
    exact ha j hj

/-! The table. -/
structure Tab where
  now : Int
  pres : Int → Int
  arms : List Armd
  wts : List Wtr
  last : Int

def Tab.new : Tab := ⟨0, fun _ => 0, [], [], 0⟩
def encI (x : Int × Int) : List Value := [I64 x.1, I64 x.2]

structure TabAt (base q b m : Nat) (T : Tab) (va vw : Value) (w : World) : Prop where
  me : Blk w q 82 [I64 T.now, .map (some b), va, vw, I64 T.last]
  map : PMap w b m T.pres
  arms : w.ownsRow base 86 9 va T.arms.length (T.arms.flatMap encarmed)
  wts : w.ownsRow base 91 3 vw T.wts.length (T.wts.flatMap encwaiter)
  ins : ∀ x ∈ T.wts, w.ownsRow base 64 2 x.l x.ins.length (x.ins.flatMap encI)
  baseq : base ≤ q
  baseb : base ≤ b

def TabIs (base q b m : Nat) (T : Tab) (w : World) : Prop := ∃ va vw, TabAt base q b m T va vw w

/-- The kinds of blocks that a table's methods turn. -/
abbrev tabTs : List TypeId := [86, 75, 91, 78, 82, 73, 33, 68, 34]

/-- What a method of the table may turn: its map, and blocks of these kinds. -/
structure OnlyM (b : Nat) (Ts : List TypeId) (base : Nat) (w w' : World) : Prop where
  os : w'.os = w.os
  tape : w'.tape = w.tape
  output : w'.output = w.output
  size : w.heap.size ≤ w'.heap.size
  block : ∀ k, k < w.heap.size → k ≠ b → (k < base ∨ ¬ HasT w k Ts) → w'.heap[k]? = w.heap[k]?

section
variable {b base : Nat} {Ts : List TypeId} {a w w' c : World}
theorem OnlyM.of (h : OnlyT Ts base w w') : OnlyM b Ts base w w' := ⟨h.os, h.tape, h.output, h.size, fun k hk _ hE => h.block k hk hE⟩
theorem OnlyM.refl (w : World) : OnlyM b Ts base w w := .of (.refl w)
theorem OnlyM.grown (h : w.grownBy w' (some b)) : OnlyM b Ts base w w' := ⟨h.os, h.tape, h.output, h.size, fun k hk hb _ => h.block k hk (by simpa using hb)⟩
theorem OnlyM.trans (h : OnlyM b Ts base a w) (k : OnlyM b Ts base w c) : OnlyM b Ts base a c := by
  refine ⟨k.os.trans h.os, k.tape.trans h.tape, k.output.trans h.output, Nat.le_trans h.size k.size, fun i hi hb hE => ?_⟩
  have h1 := h.block i hi hb hE
  refine (k.block i (Nat.lt_of_lt_of_le hi h.size) hb ?_).trans h1
  rcases hE with hE | hE
  · exact .inl hE
  · exact .inr fun ⟨c, t, fr, hc, ht⟩ => hE ⟨c, t, fr, by rw [← h1]; exact hc, ht⟩
theorem OnlyM.blk (h : OnlyM b Ts base w w') {g : Nat} {t : TypeId} {cs : List Value} (hg : Blk w g t cs) (ht : t ∉ Ts) (hb : g ≠ b) : Blk w' g t cs := by
  refine (h.block g hg.lt hb (.inr ?_)).trans hg
  rintro ⟨c, t', fr, hc, hm⟩
  unfold Blk at hg
  rw [hg] at hc
  injection hc with hc
  injection hc with _ e
  exact ht (e ▸ hm)
theorem OnlyM.only (h : OnlyM b Ts base w w') {A : World} (hA : Only [] A w) (hb : A.heap.size ≤ base) (hm : base ≤ b) : Only [] A w' :=
  ⟨h.os.trans hA.os, h.tape.trans hA.tape, h.output.trans hA.output, Nat.le_trans hA.size h.size, fun k hk hn =>
    (h.block k (Nat.lt_of_lt_of_le hk hA.size) (by omega) (.inl (by omega))).trans (hA.block k hk hn)⟩
end

/-! number, New, add -/
def numb (o : Int) : Bool := decide (0 ≤ o) && decide (o < 1000)

set_option maxHeartbeats 1000000 in
theorem number_ok (o : Int) (w : World) : Calls Try.prog 34 #[I64 o] w fun e w' => e = .returned (.bool (numb o)) ∧ w' = w := by
  unfold numb
  by_cases h0 : 0 ≤ o
  · by_cases h1 : o < 1000
    · go_enter Try.func34, Try.ntmps34
      go_wp2
      go_ret
      exact ⟨by simp [h0, h1], rfl⟩
    · go_enter Try.func34, Try.ntmps34
      go_wp2
      go_ret
      exact ⟨by simp [h0, h1], rfl⟩
  · go_enter Try.func34, Try.ntmps34
    go_wp2
    go_ret
    exact ⟨by simp; omega, rfl⟩

theorem build_Table (b : Nat) : ∀ w : World, (Instr.build 82 #[(1, .map (some b))]).run Try.prog w = .ok (.agg #[I64 0, .map (some b), .slice none 0 0, .slice none 0 0, I64 0]) w := fun _ => by kernel_rfl

set_option maxHeartbeats 1000000 in
theorem New_ok (base : Nat) (w : World) (hb : base ≤ w.heap.size) : Calls Try.prog 10 #[] w fun e w' => e = .returned (.pointer (some ⟨w.heap.size + 1, 0, none⟩)) ∧ TabIs base (w.heap.size + 1) w.heap.size 0 Tab.new w' ∧ Only [] w w' := by
  have hbt := build_Table w.heap.size
  have hmk := run_makeMap (P := Try.prog) 74 w
  go_enter Try.func10, Try.ntmps10
  go_wp2
  go_ret
  refine ⟨rfl, ⟨_, _, Blk.newA (c := #[I64 0, .map (some w.heap.size), .slice none 0 0, .slice none 0 0, I64 0]) (by show w.heap.size + 1 = (w.heap.push _).size; rw [Array.size_push]), (PMap.made w 0).alloc _, World.ownsRow_nil _ _ _ _, World.ownsRow_nil _ _ _ _, ?_, by omega, hb⟩, ((Only.refl [] w).alloc _).alloc _⟩
  intro x hx
  simp [Tab.new] at hx

theorem TabIs.onlyT {base q b m : Nat} {T : Tab} {w w' : World} {Ts : List TypeId} (h : TabIs base q b m T w) (ho : OnlyT Ts base w w') (h1 : 82 ∉ Ts) (h2 : 86 ∉ Ts) (h3 : 91 ∉ Ts) (h4 : 64 ∉ Ts) : TabIs base q b m T w' := by
  obtain ⟨va, vw, k⟩ := h
  exact ⟨va, vw, ho.blk k.me h1, k.map.onlyT ho, ho.own k.arms h2, ho.own k.wts h3, fun x hx => ho.own (k.ins x hx) h4, k.baseq, k.baseb⟩
theorem TabIs.only {base q b m : Nat} {T : Tab} {w w' : World} (h : TabIs base q b m T w) (ho : Only [] w w') : TabIs base q b m T w' := h.onlyT (Ts := []) (.of_nil ho) (by simp) (by simp) (by simp) (by simp)
theorem TabIs.alloc {base q b m : Nat} {T : Tab} {w : World} (h : TabIs base q b m T w) (o : Obj) : TabIs base q b m T (w.alloc o) := h.only ((Only.refl [] w).alloc o)
theorem TabIs.drewN {base q b m n : Nat} {T : Tab} {w : World} (h : TabIs base q b m T w) : TabIs base q b m T (w.drewN n) := by
  obtain ⟨va, vw, k⟩ := h
  exact ⟨va, vw, k.me, k.map, k.arms, k.wts, k.ins, k.baseq, k.baseb⟩

/-- What add leaves: the list in its cell, one longer. -/
def AddedS (base q off : Nat) (T : TypeId) (sz : Nat) (enc : List Value) (n : Nat) (ys : List Value) (cells : List Value) (Ts : List TypeId) (w w' : World) : Prop :=
  ∃ v', Blk w' q 82 (cells.set off v') ∧ w'.ownsRow base T sz v' (n + 1) (ys ++ enc) ∧ OnlyT Ts base w w'

set_option maxRecDepth 100000 in
set_option maxHeartbeats 4000000 in
theorem addarmed_ok (base q off n : Nat) (x : Armd) (xs : List Armd) (v : Value) (cells : List Value) (w : World) (hbw : base ≤ w.heap.size) (hbq : base ≤ q)
    (hq : Blk w q 82 cells) (hv : cells[off]? = some v) (own : w.ownsRow base 86 9 v n (xs.flatMap encarmed)) (hn : xs.length = n) (hm : n ≤ 1000000) :
    Calls Try.prog 35 #[.pointer (some ⟨q, off, none⟩), .agg (encarmed x).toArray] w
      fun e w' => e = .returned (.tuple #[]) ∧ AddedS base q off 86 9 (encarmed x) n (xs.flatMap encarmed) cells [86, 82] w w' := by
  have eq0 := hq.cell hv
  have hql := hq.lt
  have hqf := hq.frozen off
  obtain ⟨A, c, rfl⟩ := own_shape own
  have HB : Hid (Blk (w.alloc (Obj.cells (encarmed x).toArray 86)) w.heap.size 86 (encarmed x)) := hide (Blk.new w _ _)
  have HW := hide (show _ ∧ _ ∧ _ from ⟨hq.alloc (Obj.cells (encarmed x).toArray 86), own.alloc (Obj.cells (encarmed x).toArray 86), (Only.refl [] w).alloc (Obj.cells (encarmed x).toArray 86)⟩)
  obtain ⟨i0, hi0, hz0, hs0, hb0⟩ := info_parts armed_info
  clear hq own
  go_enter Try.func35, Try.ntmps35
  go_wp2_with fail
  refine wp_region_text 7 [5, 6] [0, 1, 2, 3] [4] (fun w' => w'.cell? ⟨q, off, none⟩ = some (.slice A n c)) (by kernel_rfl) (by kernel_rfl) (by go_simp) ?_
  simp only [List.take_succ_cons, List.take_zero, List.drop_succ_cons, List.drop_zero]
  repeat (first | ((refine wpText_h rfl rfl ?_; apply Exists.intro; refine ⟨?_, ?_⟩; next => (go_simp; (try (go_bits; go_simp)); (first | done | with_reducible rfl | (rw [if_neg (by omega)]; (try (go_bits; go_simp)); (first | done | with_reducible rfl)) | (rw [if_pos (by omega)]; (try (go_bits; go_simp)); (first | done | with_reducible rfl))))); (try simp only [Act.put, List.setIfInBounds_toArray, List.set_cons_zero, List.set_cons_succ])) | ((refine wpText_p rfl rfl ?_; apply Exists.intro; refine ⟨?_, ?_⟩; next => (intro w'; go_simp; (try (go_bits; go_simp)); (first | done | with_reducible rfl | (rw [if_neg (by omega)]; (try (go_bits; go_simp)); (first | done | with_reducible rfl)) | (rw [if_pos (by omega)]; (try (go_bits; go_simp)); (first | done | with_reducible rfl))))); (try simp only [Act.put, List.setIfInBounds_toArray, List.set_cons_zero, List.set_cons_succ])) | ((refine wpText_y rfl rfl ?_; apply Exists.intro; refine ⟨?_, ?_⟩; next => (intro w' hS; (first | obtain ⟨_, rfl⟩ := hS | skip); go_simp; (try (go_bits; go_simp)); (first | done | with_reducible rfl | (rw [if_neg (by omega)]; (try (go_bits; go_simp)); (first | done | with_reducible rfl)) | (rw [if_pos (by omega)]; (try (go_bits; go_simp)); (first | done | with_reducible rfl))))); (try simp only [Act.put, List.setIfInBounds_toArray, List.set_cons_zero, List.set_cons_succ])) | (refine wpText_skip (by first | exact .inl rfl | exact .inr (.inl rfl) | exact .inr (.inr rfl)) rfl ?_; (try simp only [Act.put, List.setIfInBounds_toArray, List.set_cons_zero, List.set_cons_succ])))
  refine wpText_e rfl rfl (fun K hK => ?_)
  refine wp_load_cells 86 (.tmp 3) rfl w.heap.size 0 rfl (encarmed x) (d := _) (fun j v hv => by rw [Nat.zero_add]; exact HB.out.cell hv) Try.underlying86 rfl (by kernel_rfl) ?_
  refine hK _ _ (by go_simp) ?_
  clear hK K
  try simp only [Act.put, List.setIfInBounds_toArray, List.set_cons_zero, List.set_cons_succ]
  repeat (first | ((refine wpText_h rfl rfl ?_; apply Exists.intro; refine ⟨?_, ?_⟩; next => (go_simp; (try (go_bits; go_simp)); (first | done | with_reducible rfl | (rw [if_neg (by omega)]; (try (go_bits; go_simp)); (first | done | with_reducible rfl)) | (rw [if_pos (by omega)]; (try (go_bits; go_simp)); (first | done | with_reducible rfl))))); (try simp only [Act.put, List.setIfInBounds_toArray, List.set_cons_zero, List.set_cons_succ])) | ((refine wpText_p rfl rfl ?_; apply Exists.intro; refine ⟨?_, ?_⟩; next => (intro w'; go_simp; (try (go_bits; go_simp)); (first | done | with_reducible rfl | (rw [if_neg (by omega)]; (try (go_bits; go_simp)); (first | done | with_reducible rfl)) | (rw [if_pos (by omega)]; (try (go_bits; go_simp)); (first | done | with_reducible rfl))))); (try simp only [Act.put, List.setIfInBounds_toArray, List.set_cons_zero, List.set_cons_succ])) | ((refine wpText_y rfl rfl ?_; apply Exists.intro; refine ⟨?_, ?_⟩; next => (intro w' hS; (first | obtain ⟨_, rfl⟩ := hS | skip); go_simp; (try (go_bits; go_simp)); (first | done | with_reducible rfl | (rw [if_neg (by omega)]; (try (go_bits; go_simp)); (first | done | with_reducible rfl)) | (rw [if_pos (by omega)]; (try (go_bits; go_simp)); (first | done | with_reducible rfl))))); (try simp only [Act.put, List.setIfInBounds_toArray, List.set_cons_zero, List.set_cons_succ])) | (refine wpText_skip (by first | exact .inl rfl | exact .inr (.inl rfl) | exact .inr (.inr rfl)) rfl ?_; (try simp only [Act.put, List.setIfInBounds_toArray, List.set_cons_zero, List.set_cons_succ])))
  refine wpText_e rfl rfl (fun K hK => ?_)
  go_wp2
  · exfalso; rename_i h; revert h; simp [encarmed]
  refine hK _ _ (by go_simp) ?_
  clear hK K
  try simp only [Act.put, List.setIfInBounds_toArray, List.set_cons_zero, List.set_cons_succ]
  repeat (first | ((refine wpText_h rfl rfl ?_; apply Exists.intro; refine ⟨?_, ?_⟩; next => (go_simp; (try (go_bits; go_simp)); (first | done | with_reducible rfl | (rw [if_neg (by omega)]; (try (go_bits; go_simp)); (first | done | with_reducible rfl)) | (rw [if_pos (by omega)]; (try (go_bits; go_simp)); (first | done | with_reducible rfl))))); (try simp only [Act.put, List.setIfInBounds_toArray, List.set_cons_zero, List.set_cons_succ])) | ((refine wpText_p rfl rfl ?_; apply Exists.intro; refine ⟨?_, ?_⟩; next => (intro w'; go_simp; (try (go_bits; go_simp)); (first | done | with_reducible rfl | (rw [if_neg (by omega)]; (try (go_bits; go_simp)); (first | done | with_reducible rfl)) | (rw [if_pos (by omega)]; (try (go_bits; go_simp)); (first | done | with_reducible rfl))))); (try simp only [Act.put, List.setIfInBounds_toArray, List.set_cons_zero, List.set_cons_succ])) | ((refine wpText_y rfl rfl ?_; apply Exists.intro; refine ⟨?_, ?_⟩; next => (intro w' hS; (first | obtain ⟨_, rfl⟩ := hS | skip); go_simp; (try (go_bits; go_simp)); (first | done | with_reducible rfl | (rw [if_neg (by omega)]; (try (go_bits; go_simp)); (first | done | with_reducible rfl)) | (rw [if_pos (by omega)]; (try (go_bits; go_simp)); (first | done | with_reducible rfl))))); (try simp only [Act.put, List.setIfInBounds_toArray, List.set_cons_zero, List.set_cons_succ])) | (refine wpText_skip (by first | exact .inl rfl | exact .inr (.inl rfl) | exact .inr (.inr rfl)) rfl ?_; (try simp only [Act.put, List.setIfInBounds_toArray, List.set_cons_zero, List.set_cons_succ])))
  refine wpText_nil ?_
  have hne := own_ne_blk HW.out.2.1 HW.out.1 (by decide)
  have hX : w.heap.size < (w.alloc (Obj.cells (encarmed x).toArray 86)).heap.size := (Blk.new w _ _).lt
  go_wp2_with (at_builtin; refine wpList_append_own _ rfl (.tmp 8) (.tmp 10) 75 rfl base 86 i0 (.agg zsarmed.toArray) 9 72 Try.underlying75 hi0 hz0 hs0 hb0 rfl (by decide) (.slice A n c) n (xs.flatMap encarmed) rfl ((HW.out.2.1.alloc _).drew) ⟨w.heap.size + 1, 0, none⟩ 1 1 (encarmed x) rfl rfl ?_ (by simp [encarmed, Value.oneCell']) (by unfold maxLen; omega) (by omega) ?_ ?_)
  · intro j u hu
    rw [show (⟨w.heap.size + 1, 0, none⟩ : Addr).add j = ⟨w.heap.size + 1, j, none⟩ by unfold Addr.add; split <;> simp_all]
    exact ((Blk.to (Blk.newA (by show w.heap.size + 1 = (w.heap.push _).size; rw [Array.size_push])) rfl).drew).cell hu
  · show base ≤ ((w.heap.push _).push _).size
    rw [Array.size_push, Array.size_push]; omega
  intro v3 w3 hown3 hgrow _
  obtain ⟨A3, c3, rfl⟩ := own_shape hown3
  have me3 : Blk w3 q 82 cells := ((HW.out.1.alloc _).drew).grown hgrow hne
  have d5 := me3.cell hv
  have e5 := me3.frozen off
  have hon3 := own_ne_blk hown3 me3 (by decide)
  have HT : Hid (OnlyT [86, 82] base w w3) := hide ((OnlyT.of_nil ((HW.out.2.2.alloc _).drew)).trans (OnlyT.grown ((HW.out.2.1.alloc _).drew) (by simp) (Nat.le_refl _) hgrow))
  have HM := hide me3
  have HO := hide hown3
  have hl3 := me3.lt
  clear hgrow hown3 me3 hne eq0 hqf
  go_wp2
  refine NoX.normal ?_
  go_wp2
  go_end0
  exact ⟨rfl, _, HM.out.set off _, own_setCell HO.out hon3 _, HT.out.trans (.of_only (S := [q]) ((Only.refl [q] w3).set (.inl (by simp)) _) (by
    intro k hk _
    obtain rfl : k = q := by simpa using hk
    exact ⟨hbq, HM.out.hasT (by simp)⟩))⟩

end Go.Proofs.Ytacnmlifmjflfaa
