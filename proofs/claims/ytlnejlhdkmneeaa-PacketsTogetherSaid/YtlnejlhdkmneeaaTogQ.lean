/- PacketsTogether: what Add answers to the fragments; fragments of fragments, one behind the other. -/
import Derived.Test.YtlnejlhdkmneeaaTogP
namespace Go.Proofs.Ytlnejlhdkmneeaa
open Go.RowKit

/-- What the reassembly's list is behind the arrivals Q. -/
def TogL (p : Pkt) (s : Nat → Nat) (N D : Nat) (Q : List Nat) (l : List Col) : Prop := (Q = [] ∧ l = []) ∨ (Q ≠ [] ∧ ∃ c, l = [c] ∧ TogC p s N D Q c)
section
variable {p f : Pkt} {s : Nat → Nat} {N D i : Nat} {Q : List Nat} {c : Col}
theorem TogC.fresh (hf : FragP p s N i f) : TogC p s N D [] ⟨f, 0, [], [], -1, 0⟩ :=
  ⟨hf.src, hf.dst, hf.proto, hf.ttl, hf.id, rfl, rfl, rfl, by simp, by simp, by simp, fun x => by simp, fun x h => by simp at h⟩
theorem keyB_of {a b : Pkt} (h1 : a.src = b.src) (h2 : a.dst = b.dst) (h3 : a.proto = b.proto) (h4 : a.id = b.id) : keyB a b = true := by
  unfold keyB
  rw [decide_eq_true_iff]
  exact ⟨h1, h2, h3, h4⟩
theorem TogC.key (h : TogC p s N D Q c) (hf : FragP p s N i f) : keyB c.h f = true := keyB_of (h.src.trans hf.src.symm) (h.dst.trans hf.dst.symm) (h.proto.trans hf.proto.symm) (h.id.trans hf.id.symm)
/-- What Add answers and leaves. -/
def TogO (p : Pkt) (s : Nat → Nat) (N D : Nat) (Q : List Nat) (now : Int) (o : AddOut) : Prop :=
  o.clock = now ∧ o.err = 0 ∧ (((∀ j, j < N → j ∈ Q) ∧ o.ok = true ∧ o.l = [] ∧ ∀ A k, o.q.at A k = p.at A k) ∨ ((¬ ∀ j, j < N → j ∈ Q) ∧ o.ok = false ∧ TogL p s N D Q o.l))
theorem TogL.add {l : List Col} {last now : Int} (h : TogL p s N D Q l) (hc : Cuts s N D) (hD : p.data.length = D) (hN : 2 ≤ N) (hi : i < N) (hQ : ∀ j ∈ Q, j < N) (hq64 : Q.length < 64) (hf : FragP p s N i f)
    (h0 : p.off = 0) (hm0 : p.more = false) (hnow : 0 ≤ now ∧ now < 600) (hfirst : Q = [] → now = 0) (hlast : last ≤ now) (hbig : D ≤ 65535) : TogO p s N D (i :: Q) now (addM last l f now) := by
  have hnot : ¬ (f.off = 0 ∧ f.more = false) := by
    rintro ⟨h1, h2⟩
    rw [hf.off] at h1
    rw [hf.more] at h2
    have h3 := of_decide_eq_false h2
    have h4 := hc.mono 1 i (by omega) (by omega)
    have h5 := hc.lt 0 (by omega)
    have h6 := hc.z
    simp at h1
    rw [h6] at h5
    have : s (0 + 1) = s 1 := rfl
    omega
  have hQ' : ∀ j ∈ i :: Q, j < N := fun j hj => by
    rcases List.mem_cons.1 hj with rfl | h1
    · exact hi
    · exact hQ j h1
  have key : ∀ c : Col, TogC p s N D Q c → withC (expC now l) f now = [c] → TogO p s N D (i :: Q) now (addM last l f now) := by
    intro c hcc hw
    have hk := hcc.key hf
    have hst := hcc.step hc hD hi hQ hf
    have hd := hst.done hc (by omega) hQ'
    have hcnt : c.cnt ≠ 64 := by rw [hcc.cnt]; omega
    have e : addM last l f now = if doneB (stepC c f) then ⟨now, [], wholeP (stepC c f), true, 0⟩ else ⟨now, [stepC c f], zeroP, false, 0⟩ := by
      unfold addM
      rw [if_neg (by simp [hf.ok]; omega), if_neg (by omega), if_neg hnot]
      unfold withC at hw
      simp only
      rw [hw]
      simp [hk, hcnt]
    rw [e]
    by_cases hb : doneB (stepC c f) = true
    · rw [if_pos hb]
      have hall := hd.1 hb
      exact ⟨rfl, rfl, .inl ⟨hall, rfl, rfl, hst.whole hc hD (by omega) hQ' hall h0 hm0⟩⟩
    · rw [if_neg hb]
      exact ⟨rfl, rfl, .inr ⟨fun hall => hb (hd.2 hall), rfl, .inr ⟨by simp, _, rfl, hst⟩⟩⟩
  rcases h with ⟨rfl, rfl⟩ | ⟨hne, c, rfl, hcc⟩
  · have hn0 := hfirst rfl
    subst hn0
    exact key _ (TogC.fresh hf) (by simp [withC, expC, roomC])
  · refine key c hcc ?_
    have he : expC now [c] = [c] := by
      unfold expC
      rw [List.filter_cons_of_pos (by simp [hcc.bg]; omega), List.filter_nil]
    rw [he]
    unfold withC
    rw [if_pos (by simp [hcc.key hf])]
/-- A packet that is its own only fragment. -/
theorem add_single {l : List Col} {last now : Int} (hl : l = []) (hv : f.valid = 0) (ho : f.off = 0) (hm : f.more = false) (hnow : 0 ≤ now ∧ now < 600) (hlast : last ≤ now) : addM last l f now = ⟨now, [], f, true, 0⟩ := by
  subst hl
  unfold addM
  rw [if_neg (by simp [hv]; omega), if_neg (by omega), if_pos ⟨ho, hm⟩]
  rfl
end

/-- A fragment of p from byte a to byte b; m: more come behind it. -/
structure Seg (p : Pkt) (a b : Nat) (m : Bool) (f : Pkt) : Prop where
  lt : a < b
  src : f.src = p.src
  dst : f.dst = p.dst
  proto : f.proto = p.proto
  ttl : f.ttl = p.ttl
  id : f.id = p.id
  off : f.off = (a : Nat)
  more : f.more = m
  data : f.data = (p.data.drop a).take (b - a)
  ok : f.valid = 0
inductive Chain (p : Pkt) : Nat → Nat → Bool → List Pkt → Prop
  | one {a b : Nat} {m : Bool} {f : Pkt} (h : Seg p a b m f) : Chain p a b m [f]
  | cons {a b c : Nat} {m : Bool} {f : Pkt} {l : List Pkt} (h : Seg p a b true f) (t : Chain p b c m l) : Chain p a c m (f :: l)
theorem Chain.append {p : Pkt} {a b c : Nat} {m : Bool} {l1 l2 : List Pkt} (h : Chain p a b true l1) (h2 : Chain p b c m l2) : Chain p a c m (l1 ++ l2) := by
  generalize hm : true = m1 at h
  induction h with
  | one h => subst hm; exact .cons h h2
  | cons h t ih => exact .cons h (ih h2 hm)
theorem Chain.ne {p : Pkt} {a c : Nat} {m : Bool} {l : List Pkt} (h : Chain p a c m l) : l ≠ [] := by cases h <;> simp
/-- The cuts of a chain. -/
theorem Chain.cuts {p : Pkt} {a c : Nat} {m : Bool} {l : List Pkt} (h : Chain p a c m l) : ∃ s : Nat → Nat, s 0 = a ∧ s l.length = c ∧ ∀ (i : Nat) (f : Pkt), l[i]? = some f → Seg p (s i) (s (i + 1)) (if i + 1 < l.length then true else m) f := by
  induction h with
  | @one a b m f h =>
    refine ⟨fun i => if i = 0 then a else b, rfl, rfl, fun i f' hf => ?_⟩
    cases i with
    | zero =>
      obtain rfl : f = f' := by simpa using hf
      simpa using h
    | succ i => simp at hf
  | @cons a b c m f l h t ih =>
    obtain ⟨s, h0, h1, h2⟩ := ih
    refine ⟨fun i => if i = 0 then a else s (i - 1), rfl, by simpa using h1, fun i f' hf => ?_⟩
    cases i with
    | zero =>
      obtain rfl : f = f' := by simpa using hf
      have hl : 0 < l.length := List.length_pos_iff.2 t.ne
      simp only [if_true, Nat.zero_add, Nat.one_ne_zero, if_false, Nat.sub_self, h0, List.length_cons]
      rw [if_pos (by omega)]
      exact h
    | succ i =>
      have h3 := h2 i f' (by simpa using hf)
      simp only [Nat.add_one_ne_zero, if_false, Nat.add_sub_cancel, List.length_cons, Nat.add_lt_add_iff_right]
      exact h3
/-- A whole chain: cuts and fragments. -/
theorem Chain.frags {p : Pkt} {D : Nat} {l : List Pkt} (h : Chain p 0 D false l) : ∃ s : Nat → Nat, Cuts s l.length D ∧ ∀ (i : Nat) (f : Pkt), l[i]? = some f → FragP p s l.length i f := by
  obtain ⟨s, h0, h1, h2⟩ := h.cuts
  refine ⟨s, ⟨h0, fun i hi => (h2 i _ (List.getElem?_eq_getElem hi)).lt, h1⟩, fun i f hf => ?_⟩
  have h3 := h2 i f hf
  refine ⟨h3.src, h3.dst, h3.proto, h3.ttl, h3.id, h3.off, ?_, h3.data, h3.ok⟩
  rw [h3.more]
  by_cases hi : i + 1 < l.length
  · rw [if_pos hi, decide_eq_true hi]
  · rw [if_neg hi, decide_eq_false hi]

/-- The pieces of a fragment are a chain. -/
theorem frag_seg {p f : Pkt} {a b : Nat} {m : Bool} {size N k : Nat} (h : Seg p a b m f) (hs : 0 < size) (h8 : size % 8 = 0) (hN : N * size < (b - a) + size ∧ b - a ≤ N * size) (hlen : f.data.length = b - a) (hk : k < N) :
    Seg p (a + k * size) (min (a + (k + 1) * size) b) (if k + 1 = N then m else true) (fragF f (b - a) size N k none 0) := by
  have hlt := h.lt
  have hks : k * size < b - a := by
    have h1 : (k + 1) * size ≤ N * size := Nat.mul_le_mul_right size hk
    rw [Nat.add_mul] at h1
    omega
  have e1 : (k + 1) * size = k * size + size := by rw [Nat.add_mul]; omega
  have hp : (pieceAt (b - a) size k).1 = (k * size, min size (b - a - k * size)) := by
    unfold pieceAt
    simp only
    rw [Nat.min_eq_left (Nat.le_of_lt hks)]
  have hd : (fragF f (b - a) size N k none 0).data = (p.data.drop (a + k * size)).take (min (a + (k + 1) * size) b - (a + k * size)) := by
    show (f.data.drop (pieceAt (b - a) size k).1.1).take (pieceAt (b - a) size k).1.2 = _
    rw [hp, h.data, List.drop_take, List.drop_drop, List.take_take]
    simp only
    congr 1
    rw [e1]
    omega
  have hv := h.ok
  have hbd : ¬ f.bad := fun hb => by rw [Pkt.valid_bad hb] at hv; cases hv
  unfold Pkt.bad at hbd
  rw [h.off, hlen] at hbd
  have hdl : (fragF f (b - a) size N k none 0).data.length ≤ b - a - k * size := by
    show ((f.data.drop _).take _).length ≤ _
    rw [List.length_take, hp]
    simp only
    omega
  have h8k : (k * size) % 8 = 0 := by rw [Nat.mul_mod, h8]; simp
  refine ⟨by rw [e1]; omega, h.src, h.dst, h.proto, h.ttl, h.id, ?_, ?_, hd, ?_⟩
  · show f.off + ((k * size : Nat) : Int) = _
    rw [h.off]
    push_cast
    rfl
  · show (if k + 1 = N then f.more else true) = _
    rw [h.more]
  · refine Pkt.valid_good ?_
    unfold Pkt.bad
    show ¬ (f.proto < 0 ∨ 255 < f.proto ∨ f.ttl < 0 ∨ 255 < f.ttl ∨ f.id < 0 ∨ 65535 < f.id ∨ f.off + ((k * size : Nat) : Int) < 0 ∨ 65528 < f.off + ((k * size : Nat) : Int) ∨ ¬ (f.off + ((k * size : Nat) : Int)) % 8 = 0 ∨ 65535 - (f.off + ((k * size : Nat) : Int)) < ((fragF f (b - a) size N k none 0).data.length : Int))
    rw [h.off]
    omega
theorem frag_chain {p f : Pkt} {a b : Nat} {m : Bool} {size N : Nat} (h : Seg p a b m f) (hs : 0 < size) (h8 : size % 8 = 0) (hN : N * size < (b - a) + size ∧ b - a ≤ N * size) (hlen : f.data.length = b - a) :
    Chain p a b m ((List.range N).map fun k => fragF f (b - a) size N k none 0) := by
  have hlt := h.lt
  have hN0 : 0 < N := by
    rcases Nat.eq_zero_or_pos N with h1 | h1
    · rw [h1] at hN; omega
    · exact h1
  -- from the end
  have key : ∀ j, j < N → Chain p (a + (N - 1 - j) * size) b m ((List.range' (N - 1 - j) (j + 1)).map fun k => fragF f (b - a) size N k none 0) := by
    intro j
    induction j with
    | zero =>
      intro _
      have h1 := frag_seg h hs h8 hN hlen (k := N - 1) (by omega)
      rw [if_pos (by omega)] at h1
      have e : min (a + (N - 1 + 1) * size) b = b := by rw [show N - 1 + 1 = N by omega]; omega
      rw [e] at h1
      simpa using Chain.one h1
    | succ j ih =>
      intro hj
      have h1 := frag_seg h hs h8 hN hlen (k := N - 1 - (j + 1)) (by omega)
      rw [if_neg (by omega)] at h1
      have h2 := ih (by omega)
      have e : min (a + (N - 1 - (j + 1) + 1) * size) b = a + (N - 1 - j) * size := by
        rw [show N - 1 - (j + 1) + 1 = N - 1 - j by omega]
        have h3 : (N - 1 - j + 1) * size ≤ N * size := Nat.mul_le_mul_right size (by omega)
        rw [Nat.add_mul] at h3
        omega
      rw [e] at h1
      rw [List.range'_succ, List.map_cons, show N - 1 - (j + 1) + 1 = N - 1 - j by omega]
      exact .cons h1 h2
  have h1 := key (N - 1) (by omega)
  rw [show N - 1 - (N - 1) = 0 by omega, show N - 1 + 1 = N by omega, Nat.zero_mul, Nat.add_zero, ← List.range_eq_range'] at h1
  exact h1

end Go.Proofs.Ytlnejlhdkmneeaa
