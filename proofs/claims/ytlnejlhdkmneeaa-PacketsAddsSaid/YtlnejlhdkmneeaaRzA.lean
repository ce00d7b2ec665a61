/- The reference's reassembly: how it lies in memory; plain words on its list. -/
import Derived.Test.YtlnejlhdkmneeaaAddH
namespace Go.Proofs.Ytlnejlhdkmneeaa
open Go.RowKit

abbrev rcolT : TypeId := 158
abbrev rrasT : TypeId := 147

structure RP where
  vd : Value
  vh : Value
  c : Col
def rcc (z : RP) : List Value := [.int .u32 z.c.h.src, .int .u32 z.c.h.dst, I64 z.c.h.proto, I64 z.c.h.ttl, I64 z.c.h.id, I64 z.c.h.off, .bool z.c.h.more, .slice none 0 0, I64 z.c.bg, z.vd, z.vh, I64 z.c.len, I64 (z.c.cnt : Nat)]
theorem rcc_len (z : RP) : (rcc z).length = 13 := rfl
section
variable {α : Type} {f : α → List Value} {s : Nat}
theorem flatn_len (hf : ∀ z, (f z).length = s) (zs : List α) : (zs.flatMap f).length = zs.length * s := by
  induction zs with
  | nil => simp
  | cons z r ih => rw [List.flatMap_cons, List.length_append, hf, ih, List.length_cons, Nat.add_mul]; omega
theorem flatn_take (hf : ∀ z, (f z).length = s) (zs : List α) : ∀ i, (zs.flatMap f).take (i * s) = (zs.take i).flatMap f := by
  induction zs with
  | nil => intro i; simp
  | cons z r ih =>
    intro i
    cases i with
    | zero => simp
    | succ i =>
      rw [List.flatMap_cons, List.take_succ_cons, List.flatMap_cons, ← ih i, show (i + 1) * s = s + i * s by rw [Nat.add_mul]; omega, List.take_append, hf, List.take_of_length_le (by rw [hf]; omega), show s + i * s - s = i * s by omega]
theorem flatn_drop (hf : ∀ z, (f z).length = s) (zs : List α) : ∀ i, (zs.flatMap f).drop (i * s) = (zs.drop i).flatMap f := by
  induction zs with
  | nil => intro i; simp
  | cons z r ih =>
    intro i
    cases i with
    | zero => simp
    | succ i =>
      rw [List.flatMap_cons, List.drop_succ_cons, ← ih i, show (i + 1) * s = s + i * s by rw [Nat.add_mul]; omega, List.drop_append, hf, List.drop_of_length_le (by rw [hf]; omega), show s + i * s - s = i * s by omega, List.nil_append]
theorem flatn_set (hf : ∀ z, (f z).length = s) (zs : List α) : ∀ (k : Nat) (z : α), zs[k]? = some z → ∀ (z' : α) (j : Nat) (u : Value), f z' = (f z).set j u → j < s → (zs.flatMap f).set (k * s + j) u = (zs.set k z').flatMap f := by
  induction zs with
  | nil => intro k z h; simp at h
  | cons y r ih =>
    intro k z h z' j u he hj
    cases k with
    | zero =>
      obtain rfl : y = z := by simpa using h
      rw [List.flatMap_cons, List.set_cons_zero, List.flatMap_cons, Nat.zero_mul, Nat.zero_add, List.set_append_left _ _ (by rw [hf]; exact hj), he]
    | succ k =>
      rw [List.flatMap_cons, List.set_cons_succ, List.flatMap_cons, List.set_append_right _ _ (by rw [hf, Nat.add_mul]; omega), hf, show (k + 1) * s + j - s = k * s + j by rw [Nat.add_mul]; omega, ih k z (by simpa using h) z' j u he hj]
end

structure RcAt (base : Nat) (w : World) (z : RP) : Prop where
  dr : offRow w base u8T 1 z.vd z.c.data.length (bcells z.c.data)
  hr : offRow w base boolT 1 z.vh z.c.data.length (z.c.hv.map Value.bool)
structure RrAt (base r : Nat) (w : World) (last : Int) (l : List RP) (va : Value) : Prop where
  me : Blk w r rrasT [va, I64 last]
  row : offRow w base rcolT 13 va l.length (l.flatMap rcc)
  cols : ∀ z ∈ l, RcAt base w z
  rb : base ≤ r
def rfoot (r : Nat) (l : List RP) (va : Value) : List Nat := r :: (va.ownBlock.toList ++ l.flatMap fun z => z.vd.ownBlock.toList ++ z.vh.ownBlock.toList)
theorem mem_rfoot {r : Nat} {l : List RP} {va : Value} {k : Nat} : k ∈ rfoot r l va ↔ k = r ∨ va.ownBlock = some k ∨ ∃ z ∈ l, z.vd.ownBlock = some k ∨ z.vh.ownBlock = some k := by
  unfold rfoot
  simp [List.mem_cons, List.mem_append, Option.mem_toList, Option.mem_def]
section
variable {base r : Nat} {w w' : World} {last : Int} {l : List RP} {va : Value} {z : RP}
theorem RcAt.only {S : List Nat} (h : RcAt base w z) (ho : Only S w w') (hn : ∀ k, z.vd.ownBlock = some k ∨ z.vh.ownBlock = some k → k ∉ S) : RcAt base w' z :=
  ⟨off_only h.dr ho (fun k hk => hn k (.inl hk)), off_only h.hr ho (fun k hk => hn k (.inr hk))⟩
theorem RcAt.kind (h : RcAt base w z) {k : Nat} (hk : z.vd.ownBlock = some k ∨ z.vh.ownBlock = some k) : ∃ t cs, Blk w k t cs ∧ (t = u8T ∨ t = boolT) := by
  rcases hk with h1 | h1
  · obtain ⟨cs, hb⟩ := offT' h.dr h1; exact ⟨_, cs, hb, .inl rfl⟩
  · obtain ⟨cs, hb⟩ := offT' h.hr h1; exact ⟨_, cs, hb, .inr rfl⟩
/-- Where blocks of other kinds alone have turned. -/
theorem RcAt.onlyK {S : List Nat} (h : RcAt base w z) (ho : Only S w w') (hs : ∀ k ∈ S, k < w.heap.size → ∃ t cs, Blk w k t cs ∧ t ≠ u8T ∧ t ≠ boolT) : RcAt base w' z :=
  h.only ho fun k hk hm => by
    obtain ⟨t, cs, hb, ht⟩ := h.kind hk
    obtain ⟨t2, cs2, hb2, h1, h2⟩ := hs k hm hb.lt
    rcases ht with rfl | rfl
    · exact absurd rfl (hb.ne hb2 (Ne.symm h1))
    · exact absurd rfl (hb.ne hb2 (Ne.symm h2))
theorem RrAt.only {S : List Nat} (h : RrAt base r w last l va) (ho : Only S w w') (hn : ∀ k ∈ rfoot r l va, k ∉ S) : RrAt base r w' last l va :=
  ⟨ho.blk h.me (hn _ (mem_rfoot.2 (.inl rfl))), off_only h.row ho (fun k hk => hn k (mem_rfoot.2 (.inr (.inl hk)))), fun z hz => (h.cols z hz).only ho fun k hk => hn k (mem_rfoot.2 (.inr (.inr ⟨z, hz, hk⟩))), h.rb⟩
theorem RrAt.keep (h : RrAt base r w last l va) (ho : Only [] w w') : RrAt base r w' last l va := h.only ho (by simp)
theorem RrAt.lt (h : RrAt base r w last l va) {k : Nat} (hk : k ∈ rfoot r l va) : k < w.heap.size := by
  rcases mem_rfoot.1 hk with rfl | h1 | ⟨z, hz, h1⟩
  · exact h.me.lt
  · exact (off_ge h.row _ h1).2
  · obtain ⟨t, cs, hb, -⟩ := (h.cols z hz).kind h1; exact hb.lt
theorem RrAt.ge (h : RrAt base r w last l va) {k : Nat} (hk : k ∈ rfoot r l va) : base ≤ k := by
  rcases mem_rfoot.1 hk with rfl | h1 | ⟨z, hz, h1 | h1⟩
  · exact h.rb
  · exact (off_ge h.row _ h1).1
  · exact (off_ge (h.cols z hz).dr _ h1).1
  · exact (off_ge (h.cols z hz).hr _ h1).1
theorem RrAt.cells (h : RrAt base r w last l va) {A : Option Addr} {n c : Nat} (hva : va = .slice A n c) {k : Nat} {z : RP} (hz : l[k]? = some z) :
    ∃ g o, A = some ⟨g, o, none⟩ ∧ (∃ cs, Blk w g rcolT cs) ∧ ∀ j u, (rcc z)[j]? = some u → w.cell? ⟨g, o + k * 13 + j, none⟩ = some u := by
  have hk : k < l.length := (List.getElem?_eq_some_iff.1 hz).1
  obtain ⟨g, o, cap, cs, hv, hB, -, -⟩ := off_blk h.row (by omega)
  rw [hva] at hv
  injection hv with h1 h2 h3
  refine ⟨g, o, h1, ⟨cs, hB⟩, fun j u hu => ?_⟩
  have := off_cells h.row (g := g) (o := o) (cap := c) (by rw [hva, h1, h2]) (k * 13 + j) u (flat_at rcc_len l k z j u hz hu)
  rwa [← Nat.add_assoc] at this
theorem rcc_one {l : List RP} (h : ∀ z ∈ l, RcAt base w z) : ∀ u ∈ l.flatMap rcc, u.oneCell' = true := by
  intro u hu
  obtain ⟨q, hq1, hq⟩ := List.mem_flatMap.1 hu
  simp only [rcc, List.mem_cons, List.not_mem_nil, or_false] at hq
  rcases hq with rfl | rfl | rfl | rfl | rfl | rfl | rfl | rfl | rfl | rfl | rfl | rfl | rfl
  case inr.inr.inr.inr.inr.inr.inr.inr.inr.inl => exact off_one (h _ hq1).dr
  case inr.inr.inr.inr.inr.inr.inr.inr.inr.inr.inl => exact off_one (h _ hq1).hr
  all_goals rfl
/-- The row of collections is another one. -/
theorem RrAt.to {l' : List RP} {va' : Value} {last' : Int} {S : List Nat} (h : RrAt base r w last l va) (ho : Only S w w') (hs : ∀ k ∈ S, k < w.heap.size → ∃ t cs, Blk w k t cs ∧ t ≠ u8T ∧ t ≠ boolT) (hme : Blk w' r rrasT [va', I64 last'])
    (hrow : offRow w' base rcolT 13 va' l'.length (l'.flatMap rcc)) (hsub : ∀ z ∈ l', z ∈ l) : RrAt base r w' last' l' va' :=
  ⟨hme, hrow, fun z hz => (h.cols z (hsub z hz)).onlyK ho hs, h.rb⟩
end

section
variable {q : Col → Bool}
/-- The one place of a list where q holds. -/
theorem at_one : ∀ {L : List Col} {k : Nat} {c : Col}, L.Pairwise (fun x y => q x = true → q y = false) → L[k]? = some c → q c = true →
    L.find? q = some c ∧ L.filter (fun x => !q x) = L.eraseIdx k ∧ ∀ c', L.map (fun x => if q x then c' else x) = L.set k c'
  | [], k, c, _, h, _ => by simp at h
  | a :: r, 0, c, hp, h, hq => by
    obtain rfl : a = c := by simpa using h
    have hr := (List.pairwise_cons.1 hp).1
    refine ⟨by simp [hq], ?_, fun c' => ?_⟩
    · rw [List.filter_cons_of_neg (by simp [hq]), List.eraseIdx_cons_zero, List.filter_eq_self.2 (fun y hy => by simp [hr y hy hq])]
    · rw [List.map_cons, if_pos hq, List.set_cons_zero]
      congr 1
      conv => rhs; rw [← List.map_id r]
      exact List.map_congr_left fun y hy => by simp [hr y hy hq]
  | a :: r, k + 1, c, hp, h, hq => by
    have hr := (List.pairwise_cons.1 hp).1
    have hc : r[k]? = some c := by simpa using h
    have ha : q a = false := by
      cases ha : q a with
      | false => rfl
      | true => exact absurd (hr c (List.mem_of_getElem? hc) ha) (by simp [hq])
    obtain ⟨h1, h2, h3⟩ := at_one (List.pairwise_cons.1 hp).2 hc hq
    refine ⟨by rw [List.find?_cons_of_neg (by simp [ha])]; exact h1, ?_, fun c' => ?_⟩
    · rw [List.filter_cons_of_pos (by simp [ha]), List.eraseIdx_cons_succ, h2]
    · rw [List.map_cons, if_neg (by simp [ha]), List.set_cons_succ, h3 c']
theorem at_none {L : List Col} (h : ∀ c ∈ L, q c = false) : L.any q = false := by
  rw [List.any_eq_false]
  intro c hc
  simp [h c hc]
theorem at_some {L : List Col} {c : Col} (h : c ∈ L) (hq : q c = true) : L.any q = true := List.any_eq_true.2 ⟨c, h, hq⟩
end
/-- What a list of collections is known by. -/
structure ColsOk (L : List Col) : Prop where
  fit : ∀ c ∈ L, ColFit c
  keys : L.Pairwise fun c d => kl c.h ≠ kl d.h
theorem ColsOk.one {L : List Col} {p : Pkt} (h : ColsOk L) (hf : PFit p) : L.Pairwise (fun x y => keyB x.h p = true → keyB y.h p = false) :=
  List.Pairwise.imp_of_mem (fun hx hy hr h1 => by
    cases h2 : keyB _ p with
    | false => rfl
    | true => exact absurd (((keyB_iff (h.fit _ hx).h hf).1 h1).trans ((keyB_iff (h.fit _ hy).h hf).1 h2).symm) hr) h.keys
theorem ColsOk.sub {L L' : List Col} (h : ColsOk L) (hs : L'.Sublist L) : ColsOk L' := ⟨fun c hc => h.fit c (hs.subset hc), h.keys.sublist hs⟩
theorem RzAt.ok {base r b M : Nat} {w : World} {num last : Int} {l : List PC} (h : RzAt base r b M w num last l) : ColsOk (l.map (·.2)) :=
  ⟨fun c hc => by obtain ⟨x, hx, rfl⟩ := List.mem_map.1 hc; exact h.fit x hx, List.pairwise_map.2 h.keys⟩

end Go.Proofs.Ytlnejlhdkmneeaa
