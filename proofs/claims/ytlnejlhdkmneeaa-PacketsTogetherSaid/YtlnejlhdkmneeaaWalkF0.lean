/- append upon a full slice of bytes; slices.Clone at bytes. -/
import Derived.Test.YtlnejlhdkmneeaaWalkE
import Derived.Deep.AppendSrc
import Derived.Deep.Upon
namespace Go.Proofs.Ytlnejlhdkmneeaa
open Go.RowKit

theorem u8_info : (Try.prog.info? 5).map (fun i => (i.zero, i.size, i.bytes)) = some (some (.int .u8 0), 1, 1) := by kernel_rfl

theorem OnlyT.grown {Ts : List TypeId} {base b0 : Nat} {w w' : World} {e : TypeId} {size n : Nat} {v : Value} {xs : List Value} (own : w.ownsRow b0 e size v n xs) (he : e ∈ Ts) (hb : base ≤ b0) (hg : w.grownBy w' v.ownBlock) : OnlyT Ts base w w' :=
  ⟨hg.os, hg.tape, hg.output, hg.size, fun k hk hE => hg.block k hk fun e => by
    obtain ⟨h1, h2⟩ := own_hasT own he hb k e.symm
    rcases hE with hE | hE
    · omega
    · exact hE h2⟩

section
variable {α : Type}
theorem flat_at {enc : α → List Value} {sz : Nat} (hs : ∀ x, (enc x).length = sz) : ∀ (xs : List α) (k : Nat) (x : α) (j : Nat) (v : Value), xs[k]? = some x → (enc x)[j]? = some v → (xs.flatMap enc)[k * sz + j]? = some v
  | [], k, x, j, v, h, _ => by simp at h
  | y :: ys, 0, x, j, v, h, hv => by
    simp at h; subst h
    rw [List.flatMap_cons, Nat.zero_mul, Nat.zero_add, List.getElem?_append_left]
    · exact hv
    · exact (List.getElem?_eq_some_iff.1 hv).1
  | y :: ys, k + 1, x, j, v, h, hv => by
    simp at h
    rw [List.flatMap_cons, List.getElem?_append_right (by rw [hs, Nat.add_mul]; omega), hs, show (k + 1) * sz + j - sz = k * sz + j by rw [Nat.add_mul]; omega]
    exact flat_at hs ys k x j v h hv
theorem flat_len {enc : α → List Value} {sz : Nat} (hs : ∀ x, (enc x).length = sz) : ∀ xs : List α, (xs.flatMap enc).length = xs.length * sz
  | [] => by simp
  | x :: xs => by rw [List.flatMap_cons, List.length_append, hs, flat_len hs xs, List.length_cons, Nat.add_mul]; omega
end

/-- Bytes as cells. -/
def bcells (l : List Nat) : List Value := l.map fun (x : Nat) => Value.int .u8 (x : Int)
theorem bcells_at {l : List Nat} {k x : Nat} (h : l[k]? = some x) : (bcells l)[k]? = some (.int .u8 (x : Int)) := by simp [bcells, h]
theorem bcells_len (l : List Nat) : (bcells l).length = l.length := by simp [bcells]

theorem NumsIn.of_blk {w : World} {b : Nat} {T : TypeId} {l : List Nat} {rest : List Value} (h : Blk w b T (bcells l ++ rest)) : NumsIn w .u8 (some ⟨b, 0, none⟩) l := by
  intro k x hx
  refine ⟨b, 0, rfl, ?_⟩
  rw [Nat.zero_add]
  refine h.cell ?_
  have := bcells_at hx
  rw [List.getElem?_append_left (List.getElem?_eq_some_iff.1 this).1]
  exact this

set_option maxRecDepth 100000 in
theorem append_full (w : World) (b n : Nat) (T : TypeId) (hs : List Nat) (hb : Blk w b T (bcells hs)) (hn : hs.length = n) (A : Option Addr) (data : List Nat) (m c : Nat) (hm : data.length = m) (hA : NumsIn w .u8 A data) (hsz : n + m ≤ 10000000) (hA0 : A = none → m = 0) :
    ∃ A' c' W', (∀ ty, (Builtin.append_ #[28, 28] ty #[.slice (some ⟨b, 0, none⟩) n n, .slice A m c]).run Try.prog w = .ok (.slice (some A') (n + m) c') W') ∧ Only [] w W' ∧ NumsIn W' .u8 (some A') (hs ++ data) ∧ (0 < m → ∃ g rest, A' = ⟨g, 0, none⟩ ∧ Blk W' g 5 (bcells (hs ++ data) ++ rest) ∧ w.heap.size ≤ g) ∧ n + m ≤ c' := by
  obtain ⟨i0, hi, hz0, hz1, hz2⟩ := info_parts u8_info
  rcases Nat.eq_zero_or_pos m with rfl | hpos
  · obtain rfl : data = [] := List.length_eq_zero_iff.1 hm
    refine ⟨⟨b, 0, none⟩, n, w, fun ty => ?_, Only.refl _ _, ?_, fun h => by omega, by omega⟩
    · refine run_append_nothing w 28 28 ty 5 i0 Try.underlying28 hi (some ⟨b, 0, none⟩) n n (Nat.le_refl _) _ ?_
      cases A with
      | none => exact Src.ofNil w Try.underlying28 c
      | some a => exact Src.ofSlice w Try.underlying28 a 0 c [] (by simp) (by simp) (by simp)
    · rw [List.append_nil]
      exact NumsIn.of_blk (rest := []) (by rw [List.append_nil]; exact hb)
  · obtain ⟨x, hx⟩ : ∃ x, data[0]? = some x := ⟨_, List.getElem?_eq_getElem (by omega)⟩
    obtain ⟨b2, o2, rfl, _⟩ := hA 0 x hx
    have hadd : ∀ (b o j : Nat), (⟨b, o, none⟩ : Addr).add j = ⟨b, o + j, none⟩ := fun b o j => by unfold Addr.add; split <;> simp_all
    have hr := fun ty => run_append_grow (P := Try.prog) (w := w) 28 ty 5 i0 (.int .u8 0) Try.underlying28 hi hz0 ⟨b, 0, none⟩ n n (bcells hs) (by rw [bcells_len, hz1]; omega)
      (fun j v hv => by rw [hadd, Nat.zero_add]; exact hb.cell hv) ⟨b2, o2, none⟩ m c (bcells data) (by rw [bcells_len, hz1]; omega)
      (fun j v hv => by
        rw [hadd]
        have hj := (List.getElem?_eq_some_iff.1 hv).1
        rw [bcells_len] at hj
        have hx := List.getElem?_eq_getElem hj
        obtain ⟨b3, o3, he, hc⟩ := hA j _ hx
        injection he with he
        injection he with h1 h2
        subst h1 h2
        rw [bcells_at hx] at hv
        injection hv with hv
        rw [← hv]; exact hc) (by omega) (by omega) (by rw [hz2]; exact growslice_fits (by omega) (by omega))
    have hBB : Blk (w.drew.alloc (.cells ((bcells hs).toArray ++ (bcells data).toArray ++ Builtin.zeroCells (Value.int .u8 0).cells (grownCap w (n + m) n 5 - (n + m))) 5)) w.heap.size 5 (bcells (hs ++ data) ++ (Builtin.zeroCells (Value.int .u8 0).cells (grownCap w (n + m) n 5 - (n + m))).toList) := by
      refine Blk.to (Blk.newA rfl) ?_
      simp [bcells]
    exact ⟨⟨w.heap.size, 0, none⟩, _, _, hr, (Only.refl [] w).drew.alloc _, NumsIn.of_blk hBB, fun _ => ⟨_, _, rfl, hBB, Nat.le_refl _⟩, grownCap_ge _ _ _ _⟩

/-- An append whose run is known. -/
theorem wpList_append_eq {P : Program} {ops : Array Oper} {rest : List Oper} {o : Oper} {a : Act} {w w' : World} {Q : Exit → Act → World → Prop} (hgd : o.guard = none) (s x : Operand) (t : TypeId)
    (ho : o.op = .call { callee := .builtin .append, args := #[s, x], argTypes := #[t, t] }) (v1 v2 r : Value) (hs : a.eval s = v1) (hx : a.eval x = v2)
    (hr : ∀ ty, (Builtin.append_ #[t, t] ty #[v1, v2]).run P w = .ok r w') (h : wpList P ops Q rest (a.put o.dst r) w') : wpList P ops Q (o :: rest) a w :=
  wpList_plain hgd fun _ hK => by
    unfold Oper.wp execOp
    simp only [ho, resolve, invoke, builtin, Sem.run_bind, Sem.run_pure, Result.andThen_ok, List.map_toArray, List.map_cons, List.map_nil, hs, hx, hr]
    exact hK _ _ h

/-- Bytes in a block of their own, or none. -/
def BytesBlk (w : World) (A : Option Addr) (data : List Nat) : Prop := data = [] ∨ ∃ g rest, A = some ⟨g, 0, none⟩ ∧ Blk w g 5 (bcells data ++ rest)
theorem BytesBlk.nums {w : World} {A : Option Addr} {data : List Nat} (h : BytesBlk w A data) : NumsIn w .u8 A data := by
  rcases h with rfl | ⟨g, rest, rfl, hb⟩
  · intro k x hx; simp at hx
  · exact NumsIn.of_blk hb
theorem BytesBlk.onlyT {w w' : World} {A : Option Addr} {data : List Nat} {Ts : List TypeId} {base : Nat} (h : BytesBlk w A data) (ho : OnlyT Ts base w w') (ht : 5 ∉ Ts) : BytesBlk w' A data := by
  rcases h with rfl | ⟨g, rest, rfl, hb⟩
  · exact .inl rfl
  · exact .inr ⟨g, rest, rfl, ho.blk hb ht⟩

/-- What Clone answers. -/
def ClonedS (data : List Nat) (m : Nat) (w : World) (e : Ending) (w' : World) : Prop := ∃ A' c', e = .returned (.slice A' m c') ∧ Only [] w w' ∧ BytesBlk w' A' data ∧ (A' = none → m = 0 ∧ c' = 0) ∧ m ≤ c' ∧ (0 < m → ∃ g, A' = some ⟨g, 0, none⟩ ∧ w.heap.size ≤ g)

set_option maxRecDepth 100000 in
/-- slices.Clone answers the same bytes, in a row of their own; nil where nil came. -/
theorem clone_ok (A : Option Addr) (data : List Nat) (m c : Nat) (w : World) (hm : data.length = m) (hA : NumsIn w .u8 A data) (hsz : m ≤ 1000000) (hA0 : A = none → m = 0 ∧ c = 0) :
    Calls Try.prog 19 #[.slice A m c] w fun e w' => ClonedS data m w e w' := by
  cases A with
  | none =>
    obtain ⟨rfl, rfl⟩ := hA0 rfl
    have HM := hide hm
    clear hm hA hA0
    have heq : ∀ W : World, (binOp BinOp.eql 28 (.slice none 0 0) (.slice none 0 0)).run Try.prog W = .ok (.bool true) W := fun _ => by kernel_rfl
    go_enter Try.func19, Try.ntmps19
    go_wp2
    go_ret
    exact ⟨none, 0, rfl, Only.refl _ _, .inl (List.length_eq_zero_iff.1 HM.out), fun _ => ⟨rfl, rfl⟩, Nat.le_refl _, fun h => by omega⟩
  | some a =>
    have ho : Only [] w (w.alloc (.cells #[] 5)) := (Only.refl [] w).alloc _
    obtain ⟨A', c', W', hr, h1, h2, h3, hcc⟩ := append_full (w.alloc (.cells #[] 5)) w.heap.size 0 5 [] (Blk.newA (c := #[]) rfl) rfl (some a) data m c hm (hA.only ho) (by omega) (by simp)
    have hbb : BytesBlk W' (some A') data := by
      rcases Nat.eq_zero_or_pos m with h0 | h0
      · exact .inl (List.length_eq_zero_iff.1 (by omega))
      · obtain ⟨g, rest, h4, h5, _⟩ := h3 h0
        exact .inr ⟨g, rest, by rw [h4], by simpa using h5⟩
    have hnew : Hid (0 < m → ∃ g, some A' = some (⟨g, 0, none⟩ : Addr) ∧ w.heap.size ≤ g) := hide fun h0 => by
      obtain ⟨g, rest, h4, _, h6⟩ := h3 h0
      exact ⟨g, by rw [h4], by simp at h6; omega⟩
    have H := hide (And.intro (Only.trans ho h1) hbb)
    clear hA hm ho h1 h2 h3 hA0 hbb
    have HR := hide hr
    clear hr
    have heq : ∀ W : World, (binOp BinOp.eql 28 (.slice (some a) m c) (.slice none 0 0)).run Try.prog W = .ok (.bool false) W := fun _ => by kernel_rfl
    go_enter Try.func19, Try.ntmps19
    go_wp2_with (at_builtin; refine wpList_append_eq rfl (.tmp 5) (.tmp 6) 28 rfl _ _ _ rfl rfl HR.out ?_)
    go_ret
    exact ⟨some A', c', by simp, H.out.1, H.out.2, by simp, by omega, hnew.out⟩

end Go.Proofs.Ytlnejlhdkmneeaa
