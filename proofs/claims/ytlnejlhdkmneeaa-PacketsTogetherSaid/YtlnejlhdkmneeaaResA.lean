/- The resolver: its model, and how it lies in memory. -/
import Derived.Test.YtlnejlhdkmneeaaRefD
import Derived.Test.YtlnejlhdkmneeaaOff
import Derived.Test.YtlnejlhdkmneeaaPtrMap
import Derived.Test.YtlnejlhdkmneeaaOnlyM
namespace Go.Proofs.Ytlnejlhdkmneeaa
open Go.RowKit

abbrev entT : TypeId := 173
abbrev resT : TypeId := 164
abbrev pktT : TypeId := 30
abbrev u8T : TypeId := 5
abbrev u32T : TypeId := 27
abbrev mapT : TypeId := 162
abbrev pentT : TypeId := 170

/-- What is known of an address. -/
structure Ent where
  a : Int
  hw : Int
  ex : Int
  si : Int
  wt : List Pkt

def getE (l : List Ent) (a : Int) : Option Ent := l.find? (fun x => decide (x.a = a))
def newE (a : Int) : Ent := ⟨a, 0, 0, 0, []⟩
/-- The time by which an entry is dropped; which of two is dropped first; which of all. -/
def age (x : Ent) : Int := if x.wt.isEmpty then x.ex else x.si
def ltE (x y : Ent) : Bool := decide (age x < age y) || (decide (age x = age y) && decide (x.a < y.a))
def oldTo (l : List Ent) : Nat → Nat
  | 0 => 0
  | k + 1 => match l[k + 1]?, l[oldTo l k]? with
    | some x, some y => if ltE x y then k + 1 else oldTo l k
    | _, _ => oldTo l k
def oldI (l : List Ent) : Nat := oldTo l (l.length - 1)
def rmOld (l : List Ent) : List Ent := l.eraseIdx (oldI l)
def evL (l : List Ent) (a : Int) : List Ent := if (getE l a).isSome = true ∨ l.length < 200 then l else rmOld l
def entL (l : List Ent) (a : Int) : List Ent := if (getE (evL l a) a).isSome then evL l a else evL l a ++ [newE a]
def inE (l : List Ent) (a : Int) : Ent := (getE l a).getD (newE a)
def setE (l : List Ent) (y : Ent) : List Ent := l.map (fun x => if x.a = y.a then y else x)
def addrs (l : List Ent) : List Int := l.map Ent.a

theorem getE_some {l : List Ent} {a : Int} {x : Ent} (h : getE l a = some x) : x ∈ l ∧ x.a = a := ⟨List.mem_of_find?_eq_some h, by simpa using List.find?_some h⟩
theorem getE_none {l : List Ent} {a : Int} (h : getE l a = none) : ∀ x ∈ l, x.a ≠ a := by
  intro x hx; simpa using List.find?_eq_none.1 h x hx
theorem getE_isSome {l : List Ent} {a : Int} : (getE l a).isSome = true ↔ a ∈ addrs l := by
  unfold getE addrs
  rw [List.find?_isSome]
  simp
theorem getE_of_mem {l : List Ent} (hn : (addrs l).Nodup) {x : Ent} (hx : x ∈ l) : getE l x.a = some x := by
  induction l with
  | nil => simp at hx
  | cons y r ih =>
    simp only [addrs, List.map_cons, List.nodup_cons] at hn
    unfold getE
    rw [List.find?_cons]
    rcases List.mem_cons.1 hx with rfl | hx
    · simp
    · have : y.a ≠ x.a := fun e => hn.1 (by rw [e]; exact List.mem_map_of_mem hx)
      simp only [this, decide_false]
      exact ih hn.2 hx
theorem getE_append {l r : List Ent} {a : Int} : getE (l ++ r) a = (getE l a).or (getE r a) := by unfold getE; rw [List.find?_append]
theorem inE_a (l : List Ent) (a : Int) : (inE l a).a = a := by
  unfold inE
  cases h : getE l a with
  | none => rfl
  | some x => exact (getE_some h).2
theorem rmOld_sub (l : List Ent) : (rmOld l).Sublist l := List.eraseIdx_sublist l (oldI l)
theorem evL_sub (l : List Ent) (a : Int) : (evL l a).Sublist l := by
  unfold evL
  split
  · exact List.Sublist.refl l
  · exact rmOld_sub l
theorem getE_evL (l : List Ent) (a : Int) : getE (evL l a) a = getE l a := by
  unfold evL
  split
  · rfl
  · rename_i h
    have h1 : getE l a = none := by
      cases hg : getE l a with
      | none => rfl
      | some x => rw [hg] at h; simp at h
    rw [h1]
    unfold getE at h1 ⊢
    rw [List.find?_eq_none] at h1 ⊢
    exact fun x hx => h1 x ((rmOld_sub l).subset hx)
theorem entL_some {l : List Ent} {a : Int} {x : Ent} (h : getE l a = some x) : entL l a = l := by
  have h3 : evL l a = l := if_pos (.inl (by rw [h]; rfl))
  unfold entL
  rw [getE_evL, h, h3]
  rfl
theorem entL_none {l : List Ent} {a : Int} (h : getE l a = none) (hl : l.length < 200) : entL l a = l ++ [newE a] := by
  have h3 : evL l a = l := if_pos (.inr hl)
  unfold entL
  rw [getE_evL, h, h3]
  rfl
theorem entL_full {l : List Ent} {a : Int} (h : getE l a = none) (hl : ¬ l.length < 200) : entL l a = rmOld l ++ [newE a] := by
  have h3 : evL l a = rmOld l := if_neg (by rw [h]; simpa using hl)
  unfold entL
  rw [getE_evL, h, h3]
  rfl
theorem mem_entL {l : List Ent} {a : Int} {x : Ent} (h : x ∈ entL l a) : x ∈ l ∨ x = newE a := by
  unfold entL at h
  split at h
  · exact .inl ((evL_sub l a).subset h)
  · rcases List.mem_append.1 h with h | h
    · exact .inl ((evL_sub l a).subset h)
    · exact .inr (by simpa using h)
theorem getE_entL (l : List Ent) (a : Int) : getE (entL l a) a = some (inE l a) := by
  unfold entL inE
  cases h : getE l a with
  | some x => rw [getE_evL, h]; simp [getE_evL, h]
  | none =>
    have h2 : getE [newE a] a = some (newE a) := by simp [getE, newE]
    rw [getE_evL, h]
    simp [getE_append, getE_evL, h, h2]
theorem evL_nodup {l : List Ent} (h : (addrs l).Nodup) (a : Int) : (addrs (evL l a)).Nodup := ((evL_sub l a).map Ent.a).nodup h
theorem add_nodup {l : List Ent} (h : (addrs l).Nodup) {a : Int} (hn : getE l a = none) : (addrs (l ++ [newE a])).Nodup := by
  have : a ∉ addrs l := fun hm => by have := getE_isSome.2 hm; rw [hn] at this; cases this
  simp only [addrs, List.map_append, List.map_cons, List.map_nil, newE]
  rw [List.nodup_append]
  exact ⟨h, by simp, by rintro x hx y hy; simp at hy; subst hy; rintro rfl; exact this hx⟩
theorem entL_nodup {l : List Ent} (h : (addrs l).Nodup) (a : Int) : (addrs (entL l a)).Nodup := by
  unfold entL
  split
  · exact evL_nodup h a
  · rename_i hn
    exact add_nodup (evL_nodup h a) (by cases hg : getE (evL l a) a with | none => rfl | some x => rw [hg] at hn; simp at hn)
theorem inE_mem (l : List Ent) (a : Int) : inE l a ∈ entL l a := (getE_some (getE_entL l a)).1
theorem setE_addrs (l : List Ent) (y : Ent) : addrs (setE l y) = addrs l := by
  unfold addrs setE
  rw [List.map_map]
  apply List.map_congr_left
  intro x _
  simp only [Function.comp]
  split
  · rename_i h; exact h.symm
  · rfl
theorem setE_len (l : List Ent) (y : Ent) : (setE l y).length = l.length := by simp [setE]
theorem entL_len (l : List Ent) (a : Int) : (entL l a).length ≤ l.length + 1 := by
  have := (evL_sub l a).length_le
  unfold entL; split <;> simp <;> omega
theorem mem_setE {l : List Ent} {y z : Ent} (h : z ∈ setE l y) : z = y ∨ (z ∈ l ∧ z.a ≠ y.a) := by
  unfold setE at h
  obtain ⟨x, hx, hxz⟩ := List.mem_map.1 h
  split at hxz
  · exact .inl hxz.symm
  · rename_i hne; subst hxz; exact .inr ⟨hx, hne⟩

/-- What is known of an address, as a number. -/
def knownL (l : List Ent) (a now : Int) : Int := match getE l a with | some x => if now < x.ex then x.hw else 0 | none => 0
def timeC (now clock : Int) : Int := if now < 0 ∨ 1099511627776 < now then 34 else if now < clock then 30 else 0

/-! In memory. -/
/-- Packets in memory: the same numbers, the data somewhere. -/
def PkLie (w : World) (ps qs : List Pkt) : Prop := qs.length = ps.length ∧ ∀ (k : Nat) (p : Pkt), ps[k]? = some p → ∃ B d, qs[k]? = some (p.at B d) ∧ BytesBlk w B p.data

theorem BytesBlk.sameOn {w w' : World} {A : Option Addr} {data : List Nat} (h : BytesBlk w A data) (hh : ∀ k cs, Blk w k u8T cs → w'.heap[k]? = w.heap[k]?) : BytesBlk w' A data := by
  rcases h with rfl | ⟨g, rest, rfl, hb⟩
  · exact .inl rfl
  · exact .inr ⟨g, rest, rfl, (hh g _ hb).trans hb⟩
theorem PkLie.sameOn {w w' : World} {ps qs : List Pkt} (h : PkLie w ps qs) (hh : ∀ k cs, Blk w k u8T cs → w'.heap[k]? = w.heap[k]?) : PkLie w' ps qs :=
  ⟨h.1, fun k p hp => by obtain ⟨B, d, h1, h2⟩ := h.2 k p hp; exact ⟨B, d, h1, h2.sameOn hh⟩⟩
theorem PkLie.only {w w' : World} {ps qs : List Pkt} (h : PkLie w ps qs) (ho : Only [] w w') : PkLie w' ps qs := h.sameOn fun k cs hb => ho.block k hb.lt (by simp)
theorem PkLie.nil (w : World) : PkLie w [] [] := ⟨rfl, fun k p hp => by simp at hp⟩

structure EntAt (base : Nat) (w : World) (e : Nat) (v : Value) (x : Ent) : Prop where
  me : Blk w e entT [.int .u64 x.hw, I64 x.ex, I64 x.si, v]
  row : ∃ qs, offRow w base pktT 8 v x.wt.length (qs.flatMap Pkt.cells) ∧ PkLie w x.wt qs

theorem EntAt.sameOn {base e : Nat} {w w' : World} {v : Value} {x : Ent} (h : EntAt base w e v x) (he : w'.heap[e]? = w.heap[e]?) (hv : ∀ k, v.ownBlock = some k → w'.heap[k]? = w.heap[k]?) (hh : ∀ k cs, Blk w k u8T cs → w'.heap[k]? = w.heap[k]?) : EntAt base w' e v x := by
  obtain ⟨qs, h1, h2⟩ := h.row
  exact ⟨he.trans h.me, qs, off_same h1 hv, h2.sameOn hh⟩

/-- The map as a function. -/
def lookF (l : List Ent) (eb : Int → Nat) : Lit → Option Nat := fun kl => match kl with | .int .u32 a => (getE l a).map (fun _ => eb a) | _ => none

structure ResAt (base q b m : Nat) (life clock : Int) (l : List Ent) (eb : Int → Nat) (vb : Int → Value) (w : World) : Prop where
  me : Blk w q resT [I64 life, I64 clock, .map (some b)]
  map : PtrMap w u32T b m l.length (lookF l eb)
  ents : ∀ x ∈ l, EntAt base w (eb x.a) (vb x.a) x
  inj : ∀ x ∈ l, ∀ y ∈ l, x.a ≠ y.a → eb x.a ≠ eb y.a ∧ ∀ k, (vb x.a).ownBlock = some k → (vb y.a).ownBlock ≠ some k
  nodup : (addrs l).Nodup
  bq : base ≤ q
  bb : base ≤ b
  be : ∀ x ∈ l, base ≤ eb x.a

section
variable {base q b m : Nat} {life clock : Int} {l : List Ent} {eb : Int → Nat} {vb : Int → Value} {w w' : World}
theorem ResAt.sameOn (h : ResAt base q b m life clock l eb vb w) (hb : w'.heap[b]? = w.heap[b]?) (hh : ∀ k T cs, Blk w k T cs → T ∈ [resT, entT, pktT, u8T] → w'.heap[k]? = w.heap[k]?) : ResAt base q b m life clock l eb vb w' :=
  ⟨(hh q _ _ h.me (by simp)).trans h.me, h.map.same hb, fun x hx => (h.ents x hx).sameOn (hh _ _ _ (h.ents x hx).me (by simp)) (fun k hk => by
      obtain ⟨qs, h1, -⟩ := (h.ents x hx).row
      rcases h1.2 with ⟨h2, -⟩ | ⟨g, o, cap, cs, h2, -, h3, -⟩
      · rw [h2] at hk; simp [Value.ownBlock] at hk
      · rw [h2] at hk
        obtain rfl : g = k := by simpa [Value.ownBlock] using hk
        exact hh g _ _ h3 (by simp)) (fun k cs hk => hh k _ _ hk (by simp)), h.inj, h.nodup, h.bq, h.bb, h.be⟩
theorem ResAt.only (h : ResAt base q b m life clock l eb vb w) (ho : Only [] w w') : ResAt base q b m life clock l eb vb w' :=
  h.sameOn (ho.block b h.map.lt (by simp)) fun k T cs hk _ => ho.block k hk.lt (by simp)
theorem ResAt.onlyT {Us : List TypeId} {b0 : Nat} (h : ResAt base q b m life clock l eb vb w) (ho : OnlyT Us b0 w w') (h1 : resT ∉ Us) (h2 : entT ∉ Us) (h3 : pktT ∉ Us) (h4 : u8T ∉ Us) : ResAt base q b m life clock l eb vb w' :=
  h.sameOn (ho.block b h.map.lt (.inr (h.map.noT Us))) fun k T cs hk hT => (ho.blk hk (by
    simp only [List.mem_cons, List.not_mem_nil, or_false] at hT
    rcases hT with rfl | rfl | rfl | rfl <;> assumption)).trans hk.symm
/-- A store into the law's own block. -/
theorem ResAt.far {S : List Nat} (h : ResAt base q b m life clock l eb vb w) (ho : Only S w w') (hb : b ∉ S) (hS : ∀ k ∈ S, ∀ T cs, Blk w k T cs → T ∉ [resT, entT, pktT, u8T]) : ResAt base q b m life clock l eb vb w' :=
  h.sameOn (ho.block b h.map.lt hb) fun k T cs hk hT => ho.block k hk.lt fun hm => hS k hm T cs hk hT
theorem ResAt.ne_q (h : ResAt base q b m life clock l eb vb w) {x : Ent} (hx : x ∈ l) : eb x.a ≠ q ∧ (vb x.a).ownBlock ≠ some q ∧ (vb x.a).ownBlock ≠ some (eb x.a) ∧ b ≠ eb x.a ∧ (vb x.a).ownBlock ≠ some b := by
  obtain ⟨qs, h1, -⟩ := (h.ents x hx).row
  refine ⟨(h.ents x hx).me.ne h.me (by decide), off_ne_blk h1 h.me (by decide), off_ne_blk h1 (h.ents x hx).me (by decide), h.map.ne (h.ents x hx).me, ?_⟩
  intro hk
  rcases h1.2 with ⟨h2, -⟩ | ⟨g, o, cap, cs, h2, -, h3, -⟩
  · rw [h2] at hk; simp [Value.ownBlock] at hk
  · rw [h2] at hk
    obtain rfl : g = b := by simpa [Value.ownBlock] using hk
    exact h.map.ne h3 rfl
/-- The clock is set. -/
theorem ResAt.clockTo (h : ResAt base q b m life clock l eb vb w) (c : Int) : ResAt base q b m life c l eb vb (w.setCell ⟨q, 1, none⟩ (I64 c)) := by
  have ho : Only [q] w (w.setCell ⟨q, 1, none⟩ (I64 c)) := (Only.refl _ _).set (p := ⟨q, 1, none⟩) (.inl (by simp)) _
  refine ⟨h.me.set 1 _, h.map.onlyS ho (by simpa using h.map.ne h.me), fun x hx => ?_, h.inj, h.nodup, h.bq, h.bb, h.be⟩
  obtain ⟨h1, h2, -, -, -⟩ := h.ne_q hx
  refine (h.ents x hx).sameOn (ho.block _ (h.ents x hx).me.lt (by simpa using h1)) (fun k hk => ?_) (fun k cs hk => ho.block k hk.lt (by simpa using hk.ne h.me (by decide)))
  obtain ⟨qs, h3, -⟩ := (h.ents x hx).row
  exact ho.block k (off_ge h3 k hk).2 (by simp; rintro rfl; exact h2 hk)
/-- One entry is changed. -/
theorem ResAt.put (h : ResAt base q b m life clock l eb vb w) {x y : Ent} (hx : x ∈ l) (hy : y.a = x.a) {v' : Value} (ho : Only (eb x.a :: (vb x.a).ownBlock.toList) w w') (hE : EntAt base w' (eb x.a) v' y)
    (hv : v'.ownBlock = (vb x.a).ownBlock ∨ ∀ k, v'.ownBlock = some k → w.heap.size ≤ k) : ResAt base q b m life clock (setE l y) eb (fun j => if j = x.a then v' else vb j) w' := by
  obtain ⟨n1, n2, n3, n4, n5⟩ := h.ne_q hx
  obtain ⟨qs, hr, -⟩ := (h.ents x hx).row
  have hmem : ∀ k, k ∈ (eb x.a :: (vb x.a).ownBlock.toList) ↔ k = eb x.a ∨ (vb x.a).ownBlock = some k := by intro k; simp [Option.mem_toList, eq_comm]
  have hown : ∀ z ∈ l, ∀ k, (vb z.a).ownBlock = some k → ∃ cs, Blk w k pktT cs := by
    intro z hz k hk
    obtain ⟨qs, h1, -⟩ := (h.ents z hz).row
    rcases h1.2 with ⟨h2, -⟩ | ⟨g, o, cap, cs, h2, -, h3, -⟩
    · rw [h2] at hk; simp [Value.ownBlock] at hk
    · rw [h2] at hk
      obtain rfl : g = k := by simpa [Value.ownBlock] using hk
      exact ⟨cs, h3⟩
  have hu : ∀ k cs, Blk w k u8T cs → w'.heap[k]? = w.heap[k]? := by
    intro k cs hk
    refine ho.block k hk.lt ?_
    rw [hmem]
    rintro (rfl | h1)
    · exact absurd rfl (hk.ne (h.ents x hx).me (by decide))
    · obtain ⟨cs', h2⟩ := hown x hx k h1
      exact absurd rfl (hk.ne h2 (by decide))
  have hvk : ∀ z ∈ l, z.a ≠ x.a → ∀ k, v'.ownBlock = some k → (vb z.a).ownBlock ≠ some k := by
    intro z hz hne k hk he
    rcases hv with hv | hv
    · exact (h.inj x hx z hz (Ne.symm hne)).2 k (by rw [← hv]; exact hk) he
    · obtain ⟨cs, h1⟩ := hown z hz k he
      have := hv k hk; have := h1.lt; omega
  refine ⟨ho.blk h.me (by rw [hmem]; rintro (h1 | h1); exact n1 h1.symm; exact n2 h1), ?_, ?_, ?_, by rw [setE_addrs]; exact h.nodup, h.bq, h.bb, ?_⟩
  · rw [setE_len]
    refine (h.map.onlyS ho (by rw [hmem]; rintro (h1 | h1); exact n4 h1; exact n5 h1)).ext fun kl hkl => ?_
    clear hkl
    unfold lookF
    split
    · rename_i a
      have h1 : (getE l a).isSome = (getE (setE l y) a).isSome := by
        rw [Bool.eq_iff_iff, getE_isSome, getE_isSome, setE_addrs]
      cases h2 : getE l a <;> cases h3 : getE (setE l y) a <;> simp_all
    · rfl
  · intro z hz
    rcases mem_setE hz with rfl | ⟨hz, hne⟩
    · rw [hy, if_pos rfl]; exact hE
    · have hne' : z.a ≠ x.a := by rw [← hy]; exact hne
      rw [if_neg hne']
      obtain ⟨i1, i2⟩ := h.inj z hz x hx hne'
      refine (h.ents z hz).sameOn (ho.block _ (h.ents z hz).me.lt ?_) (fun k hk => ?_) hu
      · rw [hmem]
        rintro (h1 | h1)
        · exact i1 h1
        · obtain ⟨cs, h2⟩ := hown x hx _ h1
          exact absurd rfl (h2.ne (h.ents z hz).me (by decide))
      · obtain ⟨cs, h2⟩ := hown z hz k hk
        refine ho.block k h2.lt ?_
        rw [hmem]
        rintro (rfl | h1)
        · exact absurd rfl (h2.ne (h.ents x hx).me (by decide))
        · exact i2 k hk h1
  · intro z hz u hu' hne
    rcases mem_setE hz with rfl | ⟨hzl, hz2⟩
    · rcases mem_setE hu' with rfl | ⟨hu2, hu3⟩
      · exact absurd rfl hne
      · rw [hy] at hu3 hne ⊢
        rw [if_pos rfl, if_neg hu3]
        exact ⟨(h.inj x hx u hu2 hne).1, hvk u hu2 hu3⟩
    · rw [hy] at hz2
      rcases mem_setE hu' with rfl | ⟨hu2, hu3⟩
      · rw [hy, if_pos rfl, if_neg hz2]
        exact ⟨(h.inj z hzl x hx hz2).1, fun k hk he => hvk z hzl hz2 k he hk⟩
      · rw [hy] at hu3
        rw [if_neg hz2, if_neg hu3]
        exact h.inj z hzl u hu2 hne
  · intro z hz
    rcases mem_setE hz with rfl | ⟨hz, -⟩
    · rw [hy]; exact h.be x hx
    · exact h.be z hz
/-- A new address. -/
theorem ResAt.add (h : ResAt base q b m life clock l eb vb w) (hbw : base ≤ w.heap.size) {a : Int} (ha : getE l a = none) {e s' : Nat} {f' : Lit → Option Nat} (hf : f' = updF (lookF l eb) (.int .u32 a) (some e)) (hs : s' = l.length + 1)
    (he : e = w.heap.size) (hE : Blk w' e entT [.int .u64 0, I64 0, I64 0, .slice none 0 0]) (ho : Only [b] w w') (hM : PtrMap w' u32T b (m + 1) s' f') : ResAt base q b (m + 1) life clock (l ++ [newE a]) (fun j => if j = a then e else eb j) (fun j => if j = a then .slice none 0 0 else vb j) w' := by
  subst hf hs
  have hna : ∀ x ∈ l, x.a ≠ a := getE_none ha
  have hlt : ∀ x ∈ l, eb x.a < w.heap.size := fun x hx => (h.ents x hx).me.lt
  refine ⟨ho.blk h.me (by simpa using Ne.symm (h.map.ne h.me)), ?_, ?_, ?_, ?_, h.bq, h.bb, ?_⟩
  · rw [List.length_append, List.length_singleton]
    refine hM.ext fun kl hkl => ?_
    clear hkl
    by_cases hk : kl = .int .u32 a
    · subst hk
      rw [updF_same]
      have : getE (l ++ [newE a]) a = some (newE a) := by rw [getE_append, ha]; simp [getE, newE]
      simp [lookF, this]
    · rw [updF_other _ _ hk]
      unfold lookF
      split
      · rename_i c
        have hc : c ≠ a := fun e => hk (by rw [e])
        rw [getE_append, show getE [newE a] c = none by simp [getE, newE, Ne.symm hc]]; simp [if_neg hc]
      · rfl
  · intro x hx
    rcases List.mem_append.1 hx with hx | hx
    · simp only [if_neg (hna x hx)]
      refine (h.ents x hx).sameOn (ho.block _ (hlt x hx) (by simpa using Ne.symm (h.map.ne (h.ents x hx).me))) (fun k hk => ?_) (fun k cs hk => ho.block k hk.lt (by simpa using Ne.symm (h.map.ne hk)))
      obtain ⟨qs, h3, -⟩ := (h.ents x hx).row
      exact ho.block k (off_ge h3 k hk).2 (by simp; rintro rfl; exact (h.ne_q hx).2.2.2.2 hk)
    · obtain rfl : x = newE a := by simpa using hx
      simp only [newE, if_pos]
      exact ⟨hE, [], off_nil _ _ _ _, PkLie.nil _⟩
  · intro x hx y hy hne
    rcases List.mem_append.1 hx with hx | hx
    · rcases List.mem_append.1 hy with hy | hy
      · simp only [if_neg (hna x hx), if_neg (hna y hy)]
        exact h.inj x hx y hy hne
      · obtain rfl : y = newE a := by simpa using hy
        simp only [if_neg (hna x hx), newE, if_pos]
        have := hlt x hx
        exact ⟨by omega, fun k _ hk => by simp [Value.ownBlock] at hk⟩
    · obtain rfl : x = newE a := by simpa using hx
      rcases List.mem_append.1 hy with hy | hy
      · simp only [if_neg (hna y hy), newE, if_pos]
        have := hlt y hy
        exact ⟨by omega, fun k hk => by simp [Value.ownBlock] at hk⟩
      · obtain rfl : y = newE a := by simpa using hy
        exact absurd rfl hne
  · exact add_nodup h.nodup ha
  · intro x hx
    rcases List.mem_append.1 hx with hx | hx
    · simp only [if_neg (hna x hx)]; exact h.be x hx
    · obtain rfl : x = newE a := by simpa using hx
      simp only [newE, if_pos]; omega
end

end Go.Proofs.Ytlnejlhdkmneeaa
