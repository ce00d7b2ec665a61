/- The reference's reassembly: words for Add. -/
import Derived.Test.YtlnejlhdkmneeaaRzB
namespace Go.Proofs.Ytlnejlhdkmneeaa
open Go.RowKit

theorem load_rpkt {w : World} {b : Nat} {p : Pkt} (h : Blk w b rpktT p.cells) : (loadVar rpktT ⟨b, 0, none⟩).run Try.prog w = .ok p.V w :=
  run_loadVar_cells w b 0 _ p.cells (d := _) (fun j v hv => by rw [Nat.zero_add]; exact h.cell hv) Try.underlying45 rfl (by unfold Pkt.cells; kernel_rfl)
theorem build_rzero : ∀ W : World, (Instr.build rpktT #[]).run Try.prog W = .ok (.agg #[.int .u32 0, .int .u32 0, I64 0, I64 0, I64 0, I64 0, .bool false, .slice none 0 0]) W := fun _ => by kernel_rfl
theorem Blk.pkt8r {w : World} {g : Nat} {p : Pkt} {t : TypeId} (h : Blk w g t p.cells) : w.cell? ⟨g, 0, none⟩ = some (.int .u32 p.src) ∧ w.cell? ⟨g, 1, none⟩ = some (.int .u32 p.dst) ∧ w.cell? ⟨g, 2, none⟩ = some (I64 p.proto) ∧ w.cell? ⟨g, 3, none⟩ = some (I64 p.ttl) ∧
    w.cell? ⟨g, 4, none⟩ = some (I64 p.id) ∧ w.cell? ⟨g, 5, none⟩ = some (I64 p.off) ∧ w.cell? ⟨g, 6, none⟩ = some (.bool p.more) ∧ w.cell? ⟨g, 7, none⟩ = some (.slice p.A p.data.length p.cap) :=
  ⟨h.cell (i := 0) rfl, h.cell (i := 1) rfl, h.cell (i := 2) rfl, h.cell (i := 3) rfl, h.cell (i := 4) rfl, h.cell (i := 5) rfl, h.cell (i := 6) rfl, h.cell (i := 7) rfl⟩
theorem pcells_one (p : Pkt) : ∀ u ∈ p.cells, u.oneCell' = true := by
  intro u hu
  simp only [Pkt.cells, List.mem_cons, List.not_mem_nil, or_false] at hu
  rcases hu with rfl | rfl | rfl | rfl | rfl | rfl | rfl | rfl <;> rfl
def sliceLen (w : World) (r : Nat) : Nat := match w.cell? ⟨r, 0, none⟩ with
  | some (.slice _ n _) => n
  | _ => 0
def vlen : Value → Nat
  | .slice _ n _ => n
  | _ => 0

def expR (now : Int) (l : List RP) : List RP := l.filter fun z => decide (now - z.c.bg < 600)
theorem expR_map (now : Int) (l : List RP) : (expR now l).map (·.c) = expC now (l.map (·.c)) := by
  unfold expR expC
  rw [List.filter_map]
  rfl
theorem expR_sub (now : Int) (l : List RP) : (expR now l).Sublist l := List.filter_sublist
theorem rfoot_sub {r : Nat} {l l' : List RP} {va va' : Value} {N k : Nat} (hs : ∀ z ∈ l', z ∈ l) (hv : va'.ownBlock = va.ownBlock ∨ ∀ j, va'.ownBlock = some j → N ≤ j) (hk : k ∈ rfoot r l' va') : k ∈ rfoot r l va ∨ N ≤ k := by
  rcases mem_rfoot.1 hk with h1 | h1 | ⟨z, hz, h1⟩
  · exact .inl (mem_rfoot.2 (.inl h1))
  · rcases hv with h2 | h2
    · exact .inl (mem_rfoot.2 (.inr (.inl (h2 ▸ h1))))
    · exact .inr (h2 k h1)
  · exact .inl (mem_rfoot.2 (.inr (.inr ⟨z, hs z hz, h1⟩)))
section
variable {base r : Nat} {w w' : World} {last : Int} {l : List RP} {va : Value}
theorem RrAt.slen (h : RrAt base r w last l va) : sliceLen w r = l.length := by
  obtain ⟨A, c, rfl⟩ := off_shape h.row
  unfold sliceLen
  rw [h.me.cell (i := 0) rfl]
/-- A place of the row is set. -/
theorem RrAt.putRow (h : RrAt base r w last l va) {k : Nat} {z' : RP} (ho : Only va.ownBlock.toList w w') (hrow : offRow w' base rcolT 13 va l.length ((l.set k z').flatMap rcc)) (hc : RcAt base w' z') : RrAt base r w' last (l.set k z') va :=
  ⟨ho.blk h.me (fun hm => off_ne_blk h.row h.me (by decide) (mem_own.1 hm)), by rw [List.length_set]; exact hrow, fun z hz => (List.mem_or_eq_of_mem_set hz).elim (fun hz => (h.cols z hz).onlyK ho (fun j hj _ => by
    obtain ⟨cs, hb⟩ := offT' h.row (mem_own.1 hj)
    exact ⟨_, _, hb, by decide, by decide⟩)) (fun e => e ▸ hc), h.rb⟩
end
/-- What Add answers and leaves. -/
def RAddRes (base r : Nat) (w : World) (l : List RP) (va : Value) (o : AddOut) (e : Ending) (w' : World) : Prop :=
  ∃ A c l' va', e = .returned (.tuple #[(o.q.at A c).V, .bool o.ok, I64 o.err]) ∧ NumsIn w' .u8 A o.q.data ∧ l'.map (·.c) = o.l ∧ RrAt base r w' o.clock l' va' ∧ Only (r :: va.ownBlock.toList) w w' ∧ ∀ k ∈ rfoot r l' va', k ∈ rfoot r l va ∨ w.heap.size ≤ k
theorem radd_none {base r : Nat} {w w' : World} {last : Int} {l : List RP} {va : Value} {o : AddOut} {err : Int} (h : RrAt base r w' last l va) (hO : Only [] w w') (ho : o = ⟨last, l.map (·.c), zeroP, false, err⟩) :
    RAddRes base r w l va o (.returned (.tuple #[zeroP.V, .bool false, I64 err])) w' := by
  subst ho
  exact ⟨none, 0, l, va, rfl, fun k x hx => by simp [zeroP] at hx, rfl, h, hO.mono (by simp), fun k hk => .inl hk⟩

/-- On the way through the old ones. -/
def RExpAt (base r : Nat) (now : Int) (l : List RP) (va : Value) (p : Pkt) (w : World) (k n : Nat) (wr : World) : Prop :=
  ∃ (done rest : List RP) (va1 : Value), done.length = k ∧ (done ++ rest).length = n ∧ expR now l = done ++ expR now rest ∧ (done ++ rest).Sublist l ∧ RrAt base r wr now (done ++ rest) va1 ∧
    Blk wr w.heap.size rpktT p.cells ∧ Blk wr (w.heap.size + 1) rpktT zsP ∧ Only [r] w wr ∧ (va1.ownBlock = va.ownBlock ∨ ∀ j, va1.ownBlock = some j → w.heap.size ≤ j)
theorem RExpAt.young {base r k n : Nat} {now : Int} {l done rest : List RP} {x : RP} {va va1 : Value} {p : Pkt} {w wr : World} (hd : done.length = k) (hn : (done ++ x :: rest).length = n) (hE : expR now l = done ++ expR now (x :: rest)) (hs : (done ++ x :: rest).Sublist l) (hR : RrAt base r wr now (done ++ x :: rest) va1)
    (hb : Blk wr w.heap.size rpktT p.cells) (hz : Blk wr (w.heap.size + 1) rpktT zsP) (ho : Only [r] w wr) (hv : va1.ownBlock = va.ownBlock ∨ ∀ j, va1.ownBlock = some j → w.heap.size ≤ j) (hy : now - x.c.bg < 600) : RExpAt base r now l va p w (k + 1) n wr := by
  have e : done ++ x :: rest = (done ++ [x]) ++ rest := by simp
  refine ⟨done ++ [x], rest, va1, by simp [hd], by rw [← e]; exact hn, ?_, by rw [← e]; exact hs, by rw [← e]; exact hR, hb, hz, ho, hv⟩
  rw [hE]
  unfold expR
  rw [List.filter_cons_of_pos (by simpa using hy)]
  simp
theorem RExpAt.old {base r k n : Nat} {now : Int} {l done rest : List RP} {x : RP} {va va2 : Value} {p : Pkt} {w wr w2 : World} (hd : done.length = k) (hn : (done ++ x :: rest).length = n) (hE : expR now l = done ++ expR now (x :: rest)) (hs : (done ++ x :: rest).Sublist l)
    (hb : Blk wr w.heap.size rpktT p.cells) (hz : Blk wr (w.heap.size + 1) rpktT zsP) (ho : Only [r] w wr) (hy : ¬ now - x.c.bg < 600) (hR : RrAt base r w2 now ((done ++ x :: rest).eraseIdx k) va2) (ho2 : Only [r] wr w2) (hv : ∀ j, va2.ownBlock = some j → wr.heap.size ≤ j) (hr : w.heap.size ≠ r ∧ w.heap.size + 1 ≠ r) : RExpAt base r now l va p w k (n - 1) w2 := by
  have e : (done ++ x :: rest).eraseIdx k = done ++ rest := by
    rw [← hd, List.eraseIdx_append_of_length_le (Nat.le_refl _)]
    simp
  rw [e] at hR
  refine ⟨done, rest, va2, hd, by simp at hn ⊢; omega, ?_, ?_, hR, ho2.blk hb (by simpa using hr.1), ho2.blk hz (by simpa using hr.2), ho.trans ho2, .inr fun j hj => Nat.le_trans ho.size (hv j hj)⟩
  · rw [hE]
    unfold expR
    rw [List.filter_cons_of_neg (by simpa using hy)]
  · exact (List.Sublist.append_left (List.sublist_cons_self x rest) done).trans hs

/-- What the search has found. -/
def SrchS (L : List RP) (p : Pkt) (i : Nat) (kk : Int) : Prop :=
  (kk = -1 ∧ ∀ (j : Nat) (x : RP), j < i → L[j]? = some x → keyB x.c.h p = false) ∨ (∃ (j : Nat) (x : RP), j < i ∧ kk = (j : Int) ∧ L[j]? = some x ∧ keyB x.c.h p = true)
theorem SrchS.hit {L : List RP} {p : Pkt} {i : Nat} {x : RP} (hx : L[i]? = some x) (hk : keyB x.c.h p = true) : SrchS L p (i + 1) (i : Int) := .inr ⟨i, x, by omega, rfl, hx, hk⟩
theorem SrchS.miss {L : List RP} {p : Pkt} {i : Nat} {kk : Int} {x : RP} (h : SrchS L p i kk) (hx : L[i]? = some x) (hk : keyB x.c.h p = false) : SrchS L p (i + 1) kk := by
  rcases h with ⟨h1, h2⟩ | ⟨j, y, h1, h2, h3, h4⟩
  · refine .inl ⟨h1, fun j y hj hy => ?_⟩
    rcases Nat.lt_or_ge j i with h3 | h3
    · exact h2 j y h3 hy
    · obtain rfl : j = i := by omega
      rw [hx] at hy
      injection hy with hy
      exact hy ▸ hk
  · exact .inr ⟨j, y, by omega, h2, h3, h4⟩

theorem colsOk_withC {L : List Col} {p : Pkt} {now : Int} (h : ColsOk L) (hf : PFit p) (hnow : 0 ≤ now ∧ now ≤ 1099511627776) : ColsOk (withC L p now) := by
  unfold withC
  split
  · exact h
  · rename_i ha
    have hs : (roomC L).Sublist L := by
      unfold roomC
      split
      · exact List.drop_sublist _ _
      · exact List.Sublist.refl _
    refine ⟨fun c hc => ?_, List.pairwise_append.2 ⟨h.keys.sublist hs, List.pairwise_singleton _ _, fun c hc d hd e => ?_⟩⟩
    · rcases List.mem_append.1 hc with h1 | h1
      · exact h.fit c (hs.subset h1)
      · obtain rfl := List.mem_singleton.1 h1
        exact ⟨hf, by simp, by simp, hnow⟩
    · obtain rfl := List.mem_singleton.1 hd
      exact ha (at_some (hs.subset hc) ((keyB_iff (h.fit c (hs.subset hc)).h hf).2 e))
theorem addM_ix {last now : Int} {L L2 : List Col} {p : Pkt} {k : Nat} {c : Col} (hv : p.valid = 0) (ht : 0 ≤ now ∧ now ≤ 1099511627776) (hl : ¬ now < last) (ho : ¬ (p.off = 0 ∧ p.more = false)) (hm : L2 = withC (expC now L) p now)
    (h1 : L2.Pairwise (fun x y => keyB x.h p = true → keyB y.h p = false)) (hc : L2[k]? = some c) (hq : keyB c.h p = true) :
    addM last L p now = if c.cnt = 64 then ⟨now, L2.eraseIdx k, zeroP, false, 18⟩ else if doneB (stepC c p) then ⟨now, L2.eraseIdx k, wholeP (stepC c p), true, 0⟩ else ⟨now, L2.set k (stepC c p), zeroP, false, 0⟩ := by
  obtain ⟨e1, e2, e3⟩ := at_one (q := fun x : Col => keyB x.h p) h1 hc hq
  unfold addM
  rw [if_neg (by simp [hv]; omega), if_neg hl, if_neg ho]
  unfold withC at hm
  simp only
  rw [← hm, e1, e2]
  simp only [e3]

/-- Where Add holds the packet's collection. -/
def RFoundAt (base r : Nat) (now : Int) (l : List RP) (va : Value) (p : Pkt) (w : World) (s : Value) (wx : World) : Prop :=
  ∃ (k : Nat) (l2 : List RP) (x : RP) (va2 : Value), s = I64 k ∧ l2[k]? = some x ∧ keyB x.c.h p = true ∧ x.c.cnt ≠ 64 ∧ RrAt base r wx now l2 va2 ∧ l2.map (·.c) = withC (expC now (l.map (·.c))) p now ∧ l2.length ≤ 1000 ∧
    Blk wx w.heap.size rpktT p.cells ∧ Blk wx (w.heap.size + 1) rpktT zsP ∧ Only [r] w wx ∧ (va2.ownBlock = va.ownBlock ∨ ∀ j, va2.ownBlock = some j → w.heap.size ≤ j) ∧ ∀ j ∈ rfoot r l2 va2, j ∈ rfoot r l va ∨ w.heap.size ≤ j

/-- Where there is room for another collection. -/
def RRoomAt (base r : Nat) (now : Int) (l : List RP) (va : Value) (p : Pkt) (w wx : World) : Prop :=
  ∃ (l3 : List RP) (va3 : Value), l3.map (·.c) = roomC (expC now (l.map (·.c))) ∧ l3.length ≤ 16 ∧ (∀ z ∈ l3, z ∈ l) ∧ RrAt base r wx now l3 va3 ∧ Blk wx w.heap.size rpktT p.cells ∧ Blk wx (w.heap.size + 1) rpktT zsP ∧ Only [r] w wx ∧
    (va3.ownBlock = va.ownBlock ∨ ∀ j, va3.ownBlock = some j → w.heap.size ≤ j)
def newR (p : Pkt) (now : Int) : RP := ⟨.slice none 0 0, .slice none 0 0, ⟨p, now, [], [], -1, 0⟩⟩
theorem newR_cells (p : Pkt) (now : Int) : rcc (newR p now) = [.int .u32 p.src, .int .u32 p.dst, I64 p.proto, I64 p.ttl, I64 p.id, I64 p.off, .bool p.more, .slice none 0 0, I64 now, .slice none 0 0, .slice none 0 0, I64 (-1), I64 0] := rfl
theorem newR_one (p : Pkt) (now : Int) : ∀ u ∈ rcc (newR p now), u.oneCell' = true := by
  intro u hu
  rw [newR_cells] at hu
  simp only [List.mem_cons, List.not_mem_nil, or_false] at hu
  rcases hu with rfl | rfl | rfl | rfl | rfl | rfl | rfl | rfl | rfl | rfl | rfl | rfl | rfl <;> rfl
theorem build_rcol (p : Pkt) (now : Int) : ∀ W : World, (Instr.build rcolT #[(0, .agg #[.int .u32 p.src, .int .u32 p.dst, I64 p.proto, I64 p.ttl, I64 p.id, I64 p.off, .bool p.more, .slice none 0 0]), (1, I64 now), (4, I64 (-1))]).run Try.prog W =
    .ok (.agg #[.int .u32 p.src, .int .u32 p.dst, I64 p.proto, I64 p.ttl, I64 p.id, I64 p.off, .bool p.more, .slice none 0 0, I64 now, .slice none 0 0, .slice none 0 0, I64 (-1), I64 0]) W := fun _ => by kernel_rfl
/-- Behind the store of the list with the new collection. -/
def RBegAt (base r : Nat) (now : Int) (p : Pkt) (n : Nat) (l3 : List RP) (W wx : World) : Prop :=
  ∃ v', offRow wx base rcolT 13 v' (n + 1) ((l3 ++ [newR p now]).flatMap rcc) ∧ Blk wx r rrasT [v', I64 now] ∧ Only [r] W wx ∧ ∀ j, v'.ownBlock = some j → W.heap.size ≤ j
theorem rbeg_end {base r n n' : Nat} {now : Int} {p : Pkt} {l3 : List RP} {W y : World} {v v0 : Value} {xs : List Value} (hr : offRow y W.heap.size rcolT 13 v n' xs) (hn : n' = n + 1) (hx : xs = (l3 ++ [newR p now]).flatMap rcc) (ho : Only [] W y) (hme : Blk W r rrasT [v0, I64 now]) (hb : base ≤ W.heap.size) : RBegAt base r now p n l3 W (y.setCell ⟨r, 0, none⟩ v) := by
  subst hn hx
  have hm := ho.blk hme (by simp)
  exact ⟨v, off_base (off_set hr (p := ⟨r, 0, none⟩) (off_ne_blk hr hm (by decide)) v) hb, hm.set 0 _, (ho.mono (S' := [r]) (by simp)).set (p := ⟨r, 0, none⟩) (.inl (by simp)) _, fun j hj => (off_ge hr j hj).1⟩
theorem erase_map (l : List RP) (k : Nat) : (l.eraseIdx k).map (·.c) = (l.map (·.c)).eraseIdx k := by
  rw [List.eraseIdx_eq_take_drop_succ, List.eraseIdx_eq_take_drop_succ, List.map_append, List.map_take, List.map_drop]
theorem set_erase {α : Type} : ∀ (l : List α) (k : Nat) (x : α), (l.set k x).eraseIdx k = l.eraseIdx k
  | [], _, _ => rfl
  | _ :: _, 0, _ => rfl
  | a :: r, k + 1, x => by rw [List.set_cons_succ, List.eraseIdx_cons_succ, List.eraseIdx_cons_succ, set_erase r k x]
theorem flat_set_eq {α : Type} {f : α → List Value} {z z' : α} (h : f z = f z') : ∀ (l : List α) (k : Nat), (l.set k z).flatMap f = (l.set k z').flatMap f
  | [], _ => rfl
  | a :: r, 0 => by rw [List.set_cons_zero, List.set_cons_zero, List.flatMap_cons, List.flatMap_cons, h]
  | a :: r, k + 1 => by rw [List.set_cons_succ, List.set_cons_succ, List.flatMap_cons, List.flatMap_cons, flat_set_eq h r k]
theorem addr_add (g j : Nat) : (⟨g, 0, none⟩ : Addr).add j = ⟨g, j, none⟩ := by unfold Addr.add; split <;> simp_all
theorem keyB_refl (p : Pkt) : keyB p p = true := by simp [keyB]
theorem pad_eq {D : List Nat} {H : List Bool} {dl N e : Nat} (hd : D.length = dl) (hh : H.length = dl) (hN : N = max e dl) : D ++ List.replicate (N - dl) 0 = padN e D ∧ H ++ List.replicate (N - dl) false = padB e H := by
  unfold padN padB
  rw [hd, hh, show N - dl = e - dl by omega]
  exact ⟨rfl, rfl⟩
theorem off_made {w : World} {T : TypeId} {size b g : Nat} (hb : b ≤ w.heap.size) (hg : g = w.heap.size) : offRow (w.alloc (.cells #[] T)) b T size (.slice (some ⟨g, 0, none⟩) 0 0) 0 [] := by
  subst hg
  exact ⟨by simp, .inr ⟨w.heap.size, 0, 0, [], rfl, hb, Blk.newA (by simp), Nat.le_refl _, by simp [maxLen], by simp, by simp⟩⟩
/-- Two rows that have been made anew. -/
def TwoRows (W0 : World) (n : Nat) (D H : List Value) (vd vh : Value) (wx : World) : Prop :=
  offRow wx W0.heap.size u8T 1 vd n D ∧ offRow wx W0.heap.size boolT 1 vh n H ∧ Only [] W0 wx
/-- One of two rows has been appended to. -/
theorem two_fst {W0 w w' : World} {n n' m : Nat} {D D' H : List Value} {vd vd' vh : Value} (h1 : offRow w W0.heap.size u8T 1 vd n D) (h2 : offRow w W0.heap.size boolT 1 vh m H) (h3 : Only [] W0 w) (hr : offRow w' W0.heap.size u8T 1 vd' n' D') (ho : Only vd.ownBlock.toList w w') :
    offRow w' W0.heap.size boolT 1 vh m H ∧ Only [] W0 w' :=
  ⟨off_apart h2 h1 (by decide) ho, h3.trans' ho (by intro i hi hl; have := (off_ge h1 i (mem_own.1 hi)).1; omega)⟩
theorem two_snd {W0 w w' : World} {n n' m : Nat} {D H H' : List Value} {vd vh vh' : Value} (h1 : offRow w W0.heap.size u8T 1 vd n D) (h2 : offRow w W0.heap.size boolT 1 vh m H) (h3 : Only [] W0 w) (hr : offRow w' W0.heap.size boolT 1 vh' n' H') (ho : Only vh.ownBlock.toList w w') :
    offRow w' W0.heap.size u8T 1 vd n D ∧ Only [] W0 w' :=
  ⟨off_apart h1 h2 (by decide) ho, h3.trans' ho (by intro i hi hl; have := (off_ge h2 i (mem_own.1 hi)).1; omega)⟩
theorem b_one (l : List Nat) : ∀ u ∈ bcells l, u.oneCell' = true := by
  intro u hu
  simp only [bcells, List.mem_map] at hu
  obtain ⟨a, -, rfl⟩ := hu
  rfl
theorem bool_one (l : List Bool) : ∀ u ∈ l.map Value.bool, u.oneCell' = true := by
  intro u hu
  obtain ⟨a, -, rfl⟩ := List.mem_map.1 hu
  rfl
/-- The cells of the row's place k. -/
theorem row_cells {base n c g o k : Nat} {l : List RP} {z : RP} {w : World} (h : offRow w base rcolT 13 (.slice (some ⟨g, o, none⟩) n c) n (l.flatMap rcc)) (hz : l[k]? = some z) : ∀ j u, (rcc z)[j]? = some u → w.cell? ⟨g, o + k * 13 + j, none⟩ = some u := fun j u hu => by
  have := off_cells h rfl (k * 13 + j) u (flat_at rcc_len l k z j u hz hu)
  rwa [← Nat.add_assoc] at this
theorem row_set {base n c g o k : Nat} {l : List RP} {z z' : RP} {w : World} (h : offRow w base rcolT 13 (.slice (some ⟨g, o, none⟩) n c) n (l.flatMap rcc)) (hn : l.length = n) (hz : l[k]? = some z) (j : Nat) (u : Value) (he : rcc z' = (rcc z).set j u) (hj : j < 13) :
    offRow (w.setCell ⟨g, o + k * 13 + j, none⟩ u) base rcolT 13 (.slice (some ⟨g, o, none⟩) n c) n ((l.set k z').flatMap rcc) := by
  have hk : k < n := by rw [← hn]; exact (List.getElem?_eq_some_iff.1 hz).1
  have := off_setIn h rfl (p := k * 13 + j) (by omega) u
  rwa [flatn_set rcc_len l k z hz z' j u he hj, ← Nat.add_assoc] at this

end Go.Proofs.Ytlnejlhdkmneeaa
