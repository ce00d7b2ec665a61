/- PacketsTogether: the queue, and the reassembly behind a part of it. -/
import Derived.Test.YtlnejlhdkmneeaaFragC
namespace Go.Proofs.Ytlnejlhdkmneeaa
open Go.RowKit

/-- The fragments of p in all. -/
def TogF (p : Pkt) (F : List Pkt) : Prop := F = [p] ∨ Chain p 0 p.data.length false F
/-- Behind the arrivals Q, not all yet. -/
def TogI (p : Pkt) (F : List Pkt) (Q : List Nat) (l : List Col) : Prop :=
  (F.length = 1 ∧ Q = [] ∧ l = [] ∧ ∀ f, F[0]? = some f → f.valid = 0 ∧ f.off = 0 ∧ f.more = false ∧ ∀ A k, f.at A k = p.at A k) ∨
    (2 ≤ F.length ∧ ∃ s : Nat → Nat, Cuts s F.length p.data.length ∧ (∀ (i : Nat) (f : Pkt), F[i]? = some f → FragP p s F.length i f) ∧ TogL p s F.length p.data.length Q l)
theorem FragP.at' {p f : Pkt} {s : Nat → Nat} {N i : Nat} (h : FragP p s N i f) (A : Option Addr) (k : Nat) : FragP p s N i (f.at A k) :=
  ⟨h.src, h.dst, h.proto, h.ttl, h.id, h.off, h.more, h.data, (show (f.at A k).valid = f.valid from rfl).trans h.ok⟩
theorem TogI.start {p : Pkt} {F : List Pkt} (h : TogF p F) (hv : p.valid = 0) (h0 : p.off = 0) (hm : p.more = false) : TogI p F [] [] := by
  rcases h with rfl | h
  · refine .inl ⟨rfl, rfl, rfl, fun f hf => ?_⟩
    obtain rfl : p = f := by simpa using hf
    exact ⟨hv, h0, hm, fun _ _ => rfl⟩
  · have hne : 0 < F.length := List.length_pos_iff.2 h.ne
    obtain ⟨s, hc, hf⟩ := h.frags
    by_cases h1 : F.length = 1
    · refine .inl ⟨h1, rfl, rfl, fun f h2 => ?_⟩
      have h3 := hf 0 f h2
      rw [h1] at h3 hc
      have hz := hc.z
      have ht := hc.top
      refine ⟨h3.ok, by rw [h3.off, hz]; rfl, by rw [h3.more]; rfl, fun A k => ?_⟩
      have hd : f.data = p.data := by
        rw [h3.data, hz, show s (0 + 1) = s 1 from rfl, ht]
        simp
      unfold Pkt.at
      rw [h3.src, h3.dst, h3.proto, h3.ttl, h3.id, h3.off, h3.more, hz, hd, h0, hm]
      rfl
    · exact .inr ⟨by omega, s, hc, hf, .inl ⟨rfl, rfl⟩⟩
/-- An arrival. -/
theorem TogI.add {p f : Pkt} {F : List Pkt} {Q : List Nat} {l : List Col} {last now : Int} {i : Nat} (h : TogI p F Q l) (hi : F[i]? = some f) (hQ : ∀ j ∈ Q, j < F.length) (hq : Q.length < 64) (h0 : p.off = 0) (hm : p.more = false)
    (hnow : 0 ≤ now ∧ now < 600) (hfirst : Q = [] → now = 0) (hlast : last ≤ now) (hbig : p.data.length ≤ 65535) (A : Option Addr) (k : Nat) :
    (addM last l (f.at A k) now).clock = now ∧ (addM last l (f.at A k) now).err = 0 ∧
      (((∀ j, j < F.length → j ∈ i :: Q) ∧ (addM last l (f.at A k) now).ok = true ∧ (addM last l (f.at A k) now).l = [] ∧ ∀ B c, (addM last l (f.at A k) now).q.at B c = p.at B c) ∨
        ((¬ ∀ j, j < F.length → j ∈ i :: Q) ∧ (addM last l (f.at A k) now).ok = false ∧ TogI p F (i :: Q) (addM last l (f.at A k) now).l)) := by
  have hil : i < F.length := (List.getElem?_eq_some_iff.1 hi).1
  rcases h with ⟨h1, rfl, rfl, h2⟩ | ⟨h1, s, hc, hf, hl⟩
  · obtain rfl : i = 0 := by omega
    obtain ⟨h3, h4, h5, h6⟩ := h2 f hi
    have e : addM last [] (f.at A k) now = ⟨now, [], f.at A k, true, 0⟩ := add_single rfl ((show (f.at A k).valid = f.valid from rfl).trans h3) h4 h5 hnow hlast
    rw [e]
    refine ⟨rfl, rfl, .inl ⟨fun j hj => by rw [show j = 0 by omega]; exact List.mem_cons_self .., rfl, rfl, fun B c => ?_⟩⟩
    have h7 := h6 B c
    exact h7
  · obtain ⟨g1, g2, g3⟩ := hl.add (f := f.at A k) hc rfl h1 hil hQ hq ((hf i f hi).at' A k) h0 hm hnow hfirst hlast hbig
    refine ⟨g1, g2, ?_⟩
    rcases g3 with ⟨g4, g5, g6, g7⟩ | ⟨g4, g5, g6⟩
    · exact .inl ⟨g4, g5, g6, g7⟩
    · exact .inr ⟨g4, g5, .inr ⟨h1, s, hc, hf, g6⟩⟩
theorem TogI.len {p : Pkt} {F : List Pkt} {Q : List Nat} {l : List Col} (h : TogI p F Q l) : l.length ≤ 1 := by
  rcases h with ⟨-, -, rfl, -⟩ | ⟨-, s, -, -, hl⟩
  · simp
  · rcases hl with ⟨-, rfl⟩ | ⟨-, c, rfl, -⟩ <;> simp

/-- The fragments of the first k fragments. -/
def allF (l : List Pkt) (n2 : Nat) (k : Nat) : List Pkt := (l.take k).flatMap fun f => fragsL f n2
theorem allF_succ {l : List Pkt} {n2 k : Nat} {f : Pkt} (h : l[k]? = some f) : allF l n2 (k + 1) = allF l n2 k ++ fragsL f n2 := by
  unfold allF
  rw [List.take_add_one, h, List.flatMap_append]
  simp
theorem Chain.len {p : Pkt} {a c : Nat} {m : Bool} {l : List Pkt} (h : Chain p a c m l) : a + l.length ≤ c := by
  induction h with
  | one h => have := h.lt; simp; omega
  | cons h t ih => have := h.lt; simp; omega
theorem Seg.self {p : Pkt} (hv : p.valid = 0) (h0 : p.off = 0) (hm : p.more = false) (hD : 0 < p.data.length) : Seg p 0 p.data.length false p :=
  ⟨hD, rfl, rfl, rfl, rfl, rfl, by rw [h0]; rfl, hm, by simp, hv⟩
theorem Seg.dlen {p f : Pkt} {a b : Nat} {m : Bool} (h : Seg p a b m f) (hb : b ≤ p.data.length) : f.data.length = b - a := by
  have := h.lt
  rw [h.data, List.length_take, List.length_drop]
  omega
/-- What both cuttings make of a packet. -/
structure TwoCuts (p : Pkt) (n1 n2 : Nat) : Prop where
  tog : TogF p (allF (fragsL p n1) n2 (fragsL p n1).length)
  len : ∀ k, k ≤ (fragsL p n1).length → (allF (fragsL p n1) n2 k).length ≤ p.data.length + 1
  one : ∀ (k : Nat) (f : Pkt), (fragsL p n1)[k]? = some f → f.valid = 0 ∧ f.data.length ≤ p.data.length
  pos : 0 < (fragsL p n1).length ∧ (fragsL p n1).length ≤ p.data.length + 1
theorem twoCuts {p : Pkt} {n1 n2 : Nat} (hv : p.valid = 0) (h0 : p.off = 0) (hm : p.more = false) (h1 : 28 ≤ n1) (h2 : 28 ≤ n2) : TwoCuts p n1 n2 := by
  by_cases hD : 0 < p.data.length
  · have hch := fragsL_chain (Seg.self hv h0 hm hD) (by omega) h1
    obtain ⟨s, z0, zN, hs⟩ := hch.cuts
    have hmono : ∀ i j, i ≤ j → j ≤ (fragsL p n1).length → s i ≤ s j := by
      intro i j
      induction j with
      | zero => intro hij _; rw [show i = 0 by omega]; exact Nat.le_refl _
      | succ j ih =>
        intro hij hj
        by_cases e : i = j + 1
        · rw [e]; exact Nat.le_refl _
        · have := ih (by omega) (by omega)
          have := (hs j _ (List.getElem?_eq_getElem (by omega))).lt
          omega
    have key : ∀ k, 1 ≤ k → k ≤ (fragsL p n1).length → Chain p 0 (s k) (if k < (fragsL p n1).length then true else false) (allF (fragsL p n1) n2 k) := by
      intro k
      induction k with
      | zero => intro h; omega
      | succ k ih =>
        intro _ hk
        have hg : (fragsL p n1)[k]? = some ((fragsL p n1)[k]'(by omega)) := List.getElem?_eq_getElem (by omega)
        have hsg := hs k _ hg
        have hle : s (k + 1) ≤ p.data.length := by rw [← zN]; exact hmono _ _ hk (Nat.le_refl _)
        have h3 := fragsL_chain hsg (hsg.dlen hle) h2
        rw [allF_succ hg]
        rcases Nat.eq_zero_or_pos k with rfl | hk0
        · rw [z0] at h3
          simpa [allF] using h3
        · have h4 := ih hk0 (by omega)
          rw [if_pos (by omega)] at h4
          exact h4.append h3
    have hpos : 0 < (fragsL p n1).length := List.length_pos_iff.2 hch.ne
    refine ⟨.inr ?_, fun k hk => ?_, fun k f hf => ?_, hpos, ?_⟩
    · have h3 := key _ hpos (Nat.le_refl _)
      rw [if_neg (by omega), zN] at h3
      exact h3
    · rcases Nat.eq_zero_or_pos k with rfl | hk0
      · simp [allF]
      · have h3 := (key k hk0 hk).len
        have h4 := hmono k _ hk (Nat.le_refl _)
        rw [zN] at h4
        omega
    · have h3 := hs k f hf
      have hk := (List.getElem?_eq_some_iff.1 hf).1
      have hle : s (k + 1) ≤ p.data.length := by rw [← zN]; exact hmono _ _ hk (Nat.le_refl _)
      refine ⟨h3.ok, by rw [h3.dlen hle]; omega⟩
    · have := hch.len; omega
  · have e1 : ∀ n, fragsL p n = [p] := fun n => by unfold fragsL; rw [if_pos (by omega)]
    have e2 : ∀ k, k ≤ 1 → (allF [p] n2 k).length ≤ 1 := fun k hk => by
      rcases Nat.eq_zero_or_pos k with rfl | h3
      · simp [allF]
      · obtain rfl : k = 1 := by omega
        simp [allF, e1]
    rw [show p.data.length = 0 by omega] at *
    refine ⟨?_, ?_, ?_, ?_⟩
    · rw [e1]; exact .inl (by simp [allF, e1])
    · rw [e1]; intro k hk; have := e2 k hk; omega
    · rw [e1]; intro k f hf
      cases k with
      | zero =>
        obtain rfl : p = f := by simpa using hf
        exact ⟨hv, Nat.le_refl _⟩
      | succ k => simp at hf
    · rw [e1]; simp

/-- How many are still to come. -/
def unsent (S : List Bool) : Nat := S.countP (fun b => !b)
theorem unsent_rep (n : Nat) : unsent (List.replicate n false) = n := by
  unfold unsent
  rw [List.countP_replicate]
  simp
theorem unsent_set : ∀ (S : List Bool) (i : Nat), S[i]? = some false → unsent (S.set i true) + 1 = unsent S
  | [], _, h => by simp at h
  | b :: r, 0, h => by
    obtain rfl : b = false := by simpa using h
    simp [unsent]
  | b :: r, i + 1, h => by
    have h1 := unsent_set r i (by simpa using h)
    unfold unsent at h1 ⊢
    rw [List.set_cons_succ, List.countP_cons, List.countP_cons]
    omega
theorem unsent_drop (S : List Bool) (i : Nat) (b : Bool) (h : S[i]? = some b) : unsent (S.drop i) = unsent (S.drop (i + 1)) + if b then 0 else 1 := by
  have hi := (List.getElem?_eq_some_iff.1 h).1
  rw [List.drop_eq_getElem_cons hi]
  unfold unsent
  rw [List.countP_cons]
  have : S[i] = b := by rw [List.getElem?_eq_getElem hi] at h; simpa using h
  rw [this]
  cases b <;> simp
/-- While the queue is laid: S says who stands in it. -/
structure QueI (n : Nat) (S : List Bool) (left : Nat) (Q : List Nat) : Prop where
  len : S.length = n
  lt : ∀ i ∈ Q, i < n
  mem : ∀ i, S[i]? = some true → i ∈ Q
  cnt : Q.length + left + unsent S = 64
theorem QueI.start {n : Nat} (hn : n ≤ 60) : QueI n (List.replicate n false) (64 - n) [] :=
  ⟨by simp, by simp, fun i h => by
    rw [List.getElem?_replicate] at h
    split at h <;> simp at h, by rw [unsent_rep]; simp; omega⟩
theorem QueI.fresh {n i left : Nat} {S : List Bool} {Q : List Nat} (h : QueI n S left Q) (hi : S[i]? = some false) : QueI n (S.set i true) left (Q ++ [i]) := by
  have hil := (List.getElem?_eq_some_iff.1 hi).1
  have h1 := unsent_set S i hi
  have h2 := h.cnt
  refine ⟨by rw [List.length_set, h.len], ?_, ?_, by rw [List.length_append]; simp; omega⟩
  · intro j hj
    rcases List.mem_append.1 hj with h3 | h3
    · exact h.lt j h3
    · obtain rfl := List.mem_singleton.1 h3; rw [← h.len]; exact hil
  · intro j hj
    rw [List.getElem?_set] at hj
    split at hj
    · rename_i e; subst e; simp
    · exact List.mem_append_left _ (h.mem j hj)
theorem QueI.again {n i left : Nat} {S : List Bool} {Q : List Nat} (h : QueI n S (left + 1) Q) (hi : S[i]? = some true) : QueI n (S.set i true) left (Q ++ [i]) := by
  have hil := (List.getElem?_eq_some_iff.1 hi).1
  have e : S.set i true = S := by
    apply List.ext_getElem?
    intro j
    rw [List.getElem?_set]
    split
    · rename_i e; subst e; simp [hi]
    · rfl
  rw [e]
  have h2 := h.cnt
  refine ⟨h.len, ?_, fun j hj => List.mem_append_left _ (h.mem j hj), by rw [List.length_append]; simp; omega⟩
  intro j hj
  rcases List.mem_append.1 hj with h3 | h3
  · exact h.lt j h3
  · obtain rfl := List.mem_singleton.1 h3; rw [← h.len]; exact hil
/-- While the rest is laid behind it. -/
structure QueJ (n : Nat) (S : List Bool) (i : Nat) (Q : List Nat) : Prop where
  lt : ∀ j ∈ Q, j < n
  mem : ∀ j, S[j]? = some true ∨ j < i → j < n → j ∈ Q
  cnt : Q.length + unsent (S.drop i) ≤ 64
theorem QueI.rest {n left : Nat} {S : List Bool} {Q : List Nat} (h : QueI n S left Q) : QueJ n S 0 Q :=
  ⟨h.lt, fun j hj _ => h.mem j (hj.resolve_right (by omega)), by have := h.cnt; rw [List.drop_zero]; omega⟩
theorem QueJ.skip {n i : Nat} {S : List Bool} {Q : List Nat} (h : QueJ n S i Q) (hi : S[i]? = some true) : QueJ n S (i + 1) Q := by
  have h1 := unsent_drop S i true hi
  have h2 := h.cnt
  refine ⟨h.lt, fun j hj hn => ?_, by simp at h1; omega⟩
  rcases hj with h3 | h3
  · exact h.mem j (.inl h3) hn
  · by_cases e : j = i
    · subst e; exact h.mem j (.inl hi) hn
    · exact h.mem j (.inr (by omega)) hn
theorem QueJ.put {n i : Nat} {S : List Bool} {Q : List Nat} (h : QueJ n S i Q) (hin : i < n) (hi : S[i]? = some false) : QueJ n S (i + 1) (Q ++ [i]) := by
  have h1 := unsent_drop S i false hi
  have h2 := h.cnt
  refine ⟨?_, fun j hj hn => ?_, by rw [List.length_append]; simp at h1 ⊢; omega⟩
  · intro j hj
    rcases List.mem_append.1 hj with h3 | h3
    · exact h.lt j h3
    · obtain rfl := List.mem_singleton.1 h3; exact hin
  · rcases hj with h3 | h3
    · exact List.mem_append_left _ (h.mem j (.inl h3) hn)
    · by_cases e : j = i
      · subst e; simp
      · exact List.mem_append_left _ (h.mem j (.inr (by omega)) hn)
/-- Who has come: H. -/
structure SeenI (n : Nat) (H : List Bool) (seen : Nat) (Q : List Nat) : Prop where
  len : H.length = n
  mem : ∀ i, H[i]? = some true ↔ i ∈ Q
  cnt : seen + unsent H = n
theorem SeenI.start (n : Nat) : SeenI n (List.replicate n false) 0 [] :=
  ⟨by simp, fun i => by
    rw [List.getElem?_replicate]
    split <;> simp, by rw [unsent_rep]; omega⟩
theorem SeenI.fresh {n i seen : Nat} {H : List Bool} {Q : List Nat} (h : SeenI n H seen Q) (hi : H[i]? = some false) : SeenI n (H.set i true) (seen + 1) (i :: Q) := by
  have hil := (List.getElem?_eq_some_iff.1 hi).1
  have h1 := unsent_set H i hi
  have h2 := h.cnt
  refine ⟨by rw [List.length_set, h.len], fun j => ?_, by omega⟩
  rw [List.getElem?_set, List.mem_cons]
  split
  · rename_i e; subst e; simp [hil]
  · rename_i e
    rw [h.mem]
    exact ⟨.inr, fun h => h.resolve_left (fun e2 => e e2.symm)⟩
theorem SeenI.again {n i seen : Nat} {H : List Bool} {Q : List Nat} (h : SeenI n H seen Q) (hi : H[i]? = some true) : SeenI n H seen (i :: Q) := by
  refine ⟨h.len, fun j => ?_, h.cnt⟩
  rw [h.mem, List.mem_cons]
  exact ⟨.inr, fun h2 => h2.elim (fun e => by rw [e]; exact (h.mem i).1 hi) id⟩
theorem unsent_zero : ∀ (H : List Bool), unsent H = 0 ↔ ∀ i, i < H.length → H[i]? = some true
  | [] => by simp [unsent]
  | b :: r => by
    have ih := unsent_zero r
    unfold unsent at ih ⊢
    rw [List.countP_cons]
    constructor
    · intro h i hi
      cases i with
      | zero => cases b <;> simp at h ⊢
      | succ i =>
        have : r.countP (fun b => !b) = 0 := by omega
        simpa using ih.1 this i (by simpa using hi)
    · intro h
      have h0 := h 0 (by simp)
      obtain rfl : b = true := by simpa using h0
      have := ih.2 (fun i hi => by simpa using h (i + 1) (by simpa using hi))
      simp [this]
/-- seen is n exactly when all have come. -/
theorem SeenI.all {n seen : Nat} {H : List Bool} {Q : List Nat} (h : SeenI n H seen Q) : seen = n ↔ ∀ j, j < n → j ∈ Q := by
  have h1 := h.cnt
  have h2 := unsent_zero H
  rw [h.len] at h2
  constructor
  · intro e j hj
    exact (h.mem j).1 (h2.1 (by omega) j hj)
  · intro hall
    have := h2.2 (fun j hj => (h.mem j).2 (hall j hj))
    omega

end Go.Proofs.Ytlnejlhdkmneeaa
