/- Fragment, where a packet is cut. -/
import Derived.Test.YtlnejlhdkmneeaaWalkG
namespace Go.Proofs.Ytlnejlhdkmneeaa
open Go.RowKit Go.Shelf

attribute [local go_sem] Oper.semAt_some

abbrev zsP : List Value := [.int .u32 0, .int .u32 0, I64 0, I64 0, I64 0, I64 0, .bool false, .slice none 0 0]
theorem packet_info : (Try.prog.info? 30).map (fun i => (i.zero, i.size, i.bytes)) = some (some (.agg zsP.toArray), 8, 72) := by kernel_rfl

theorem flat_setj {α : Type} {enc : α → List Value} {sz : Nat} (hs : ∀ x, (enc x).length = sz) {x' : α} {j : Nat} {v : Value} (hj : j < sz) : ∀ (xs : List α) (rest : List Value) (k : Nat) (x : α), xs[k]? = some x → (enc x).set j v = enc x' →
    (xs.flatMap enc ++ rest).set (k * sz + j) v = (xs.set k x').flatMap enc ++ rest
  | [], rest, k, x, h, _ => by simp at h
  | y :: ys, rest, 0, x, h, he => by
    simp at h; subst h
    rw [List.flatMap_cons, Nat.zero_mul, Nat.zero_add, List.append_assoc, List.set_append, if_pos (by rw [hs]; exact hj), he, List.set_cons_zero, List.flatMap_cons, List.append_assoc]
  | y :: ys, rest, k + 1, x, h, he => by
    simp at h
    rw [List.flatMap_cons, List.append_assoc, List.set_append, if_neg (by rw [hs, Nat.add_mul]; omega), hs, show (k + 1) * sz + j - sz = k * sz + j by rw [Nat.add_mul]; omega, flat_setj hs hj ys rest k x h he, List.set_cons_succ, List.flatMap_cons, List.append_assoc]

theorem Blk.put {W : World} {b D : Nat} {t : TypeId} {cs : List Value} {o o' : Obj} (h : Blk W b t cs) (hD : W.heap[D]? = some o) (ho : o.isCells = false) : Blk (W.putObj D o') b t cs := by
  have hne : b ≠ D := by
    rintro rfl
    unfold Blk at h
    rw [h] at hD
    cases hD
    simp [Obj.isCells] at ho
  exact (World.putObj_heap_other hne).trans h

/-- Fragment k of a packet: the piece x, its data at A. -/
def fragOf (p : Pkt) (size k : Nat) (x : Nat × Nat) (A : Option Addr) (c : Nat) : Pkt := ⟨p.src, p.dst, p.proto, p.ttl, p.id, p.off + ((k * size : Nat) : Int), true, A, c, (p.data.drop x.1).take x.2⟩

/-- What a round keeps: whatever lies below n₀ but block B. -/
def KpB (B n₀ : Nat) (W W' : World) : Prop := W.heap.size ≤ W'.heap.size ∧ ∀ k, k < n₀ → k ≠ B → W'.heap[k]? = W.heap[k]?
theorem KpB.refl (B n₀ : Nat) (W : World) : KpB B n₀ W W := ⟨Nat.le_refl _, fun _ _ _ => rfl⟩
theorem KpB.trans {B n₀ : Nat} {a b c : World} (h : KpB B n₀ a b) (k : KpB B n₀ b c) : KpB B n₀ a c := ⟨Nat.le_trans h.1 k.1, fun i hi hb => (k.2 i hi hb).trans (h.2 i hi hb)⟩
theorem KpB.cell {B n₀ : Nat} {W W' : World} (h : KpB B n₀ W W') {g : Nat} (hg : g < n₀) (hb : g ≠ B) {i : Nat} {v : Value} (hc : W.cell? ⟨g, i, none⟩ = some v) : W'.cell? ⟨g, i, none⟩ = some v := by
  rw [World.cell?_of_block (w := W) (h.2 g hg hb)]; exact hc
theorem KpB.of_only {B n₀ : Nat} {W W' : World} {S : List Nat} (h : Only S W W') (hS : ∀ k ∈ S, n₀ ≤ k ∨ k = B) (hn : n₀ ≤ W.heap.size) : KpB B n₀ W W' :=
  ⟨h.size, fun k hk hb => h.block k (by omega) fun hm => by rcases hS k hm with h | h <;> omega⟩

/-- The bytes of a slice and its capacity. -/
def BytesCap (W : World) (A : Option Addr) (c : Nat) (data : List Nat) : Prop := BytesBlk W A data ∧ data.length ≤ c
theorem BytesCap.nums {W : World} {A : Option Addr} {c : Nat} {data : List Nat} (h : BytesCap W A c data) : NumsIn W .u8 A data := h.1.nums
/-- What holds between two rounds: the fragments so far lie in out's row. -/
def FragI (p : Pkt) (size B7 : Nat) (W0 : World) (pre : List (Nat × Nat)) (W : World) : Prop :=
  ∃ (v : Value) (qs : List Pkt), Blk W B7 39 [v] ∧ W.ownsRow W0.heap.size 30 8 v pre.length (qs.flatMap Pkt.cells) ∧ qs.length = pre.length ∧
    (∀ k x, pre[k]? = some x → ∃ A c, qs[k]? = some (fragOf p size k x A c) ∧ BytesCap W A c ((p.data.drop x.1).take x.2)) ∧ Only [B7] W0 W

/-- Fragment k as it is handed back. -/
def fragF (p : Pkt) (len size N k : Nat) (A : Option Addr) (c : Nat) : Pkt := { fragOf p size k (pieceAt len size k).1 A c with more := if k + 1 = N then p.more else true }

/-- What Fragment answers where it cuts. -/
def FragS (p : Pkt) (len size N : Nat) (w : World) (e : Ending) (w' : World) : Prop :=
  ∃ g c qs rest, e = .returned (.tuple #[.slice (some ⟨g, 0, none⟩) N c, I64 0]) ∧ Blk w' g 30 (List.flatMap Pkt.cells qs ++ rest) ∧ qs.length = N ∧ N ≤ c ∧
    (∀ k, k < N → ∃ A c, qs[k]? = some (fragF p len size N k A c) ∧ BytesCap w' A c ((p.data.drop (pieceAt len size k).1.1).take (pieceAt len size k).1.2)) ∧ Only [] w w'

theorem FragI.own (p : Pkt) (size len B7 : Nat) (W0 : World) (hB7 : B7 < W0.heap.size) : OwnFrom W0.heap.size (fun (pre : List (Piece len)) W => FragI p size B7 W0 (pre.map (·.1)) W) := by
  rintro pre W W' row ⟨v, qs, h1, h2, h3, h4, h5⟩ hg hr
  have hcell : ∀ {g : Nat} {t : TypeId} {cs : List Value}, Blk W g t cs → row ≠ some g := by
    rintro g t cs hb rfl
    obtain ⟨-, o, ho, hc⟩ := hr g rfl
    unfold Blk at hb
    rw [hb] at ho
    cases ho
    simp [Obj.isCells] at hc
  refine ⟨v, qs, h1.grown hg (hcell h1), h2.kept hg ?_, h3, fun k x hx => ?_, ?_⟩
  · rcases h2.2 with ⟨rfl, _⟩ | ⟨g, cap, cur, rfl, _, hgb, _⟩
    · exact .inl rfl
    · right
      intro he
      have he' : row = some g := by simpa [Value.ownBlock] using he.symm
      obtain ⟨-, o, ho, hc⟩ := hr g he'
      rw [hgb] at ho; cases ho
      simp [Obj.isCells] at hc
  · obtain ⟨A, c, h6, h7, h8⟩ := h4 k x hx
    refine ⟨A, c, h6, ?_, h8⟩
    rcases h7 with h7 | ⟨g, rest, rfl, hb⟩
    · exact .inl h7
    · exact .inr ⟨g, rest, rfl, hb.grown hg (hcell hb)⟩
  · refine ⟨hg.os.trans h5.os, hg.tape.trans h5.tape, hg.output.trans h5.output, Nat.le_trans h5.size hg.size, fun k hk hn => (hg.block k (Nat.lt_of_lt_of_le hk h5.size) ?_).trans (h5.block k hk hn)⟩
    intro e
    have := (hr k e.symm).1
    omega

set_option maxRecDepth 100000 in
set_option maxHeartbeats 8000000 in
theorem cut_in (p : Pkt) (lim size len cap b o N : Nat) (w : World) (hlen : p.data.length = len) (hcp : p.cap = cap) (hPA : p.A = some ⟨b, o, none⟩) (hv : p.valid = 0) (h28 : 28 ≤ lim) (hsz : size = (lim - 20) / 8 * 8) (hgt : lim - 20 < len) (hl : len ≤ 1000000) (hcap : len ≤ cap) (hN : N * size < len + size ∧ len ≤ N * size) (hA : NumsIn w .u8 p.A p.data) (hbw : b < w.heap.size) :
    CallsIn Fence.wide 5 Try.prog 21 #[p.V, I64 lim] w fun e W' => FragS p len size N w e W' := by
  have hO : Only [] w (w.alloc (.cells #[.int .u32 p.src, .int .u32 p.dst, I64 p.proto, I64 p.ttl, I64 p.id, I64 p.off, .bool p.more, .slice (some ⟨b, o, none⟩) len cap] 30)) := (Only.refl [] w).alloc _
  have hB : Blk (w.alloc (.cells #[.int .u32 p.src, .int .u32 p.dst, I64 p.proto, I64 p.ttl, I64 p.id, I64 p.off, .bool p.more, .slice (some ⟨b, o, none⟩) len cap] 30)) w.heap.size 30 [.int .u32 p.src, .int .u32 p.dst, I64 p.proto, I64 p.ttl, I64 p.id, I64 p.off, .bool p.more, .slice (some ⟨b, o, none⟩) len cap] := Blk.newA rfl
  have hVal := Valid_ok p (w.alloc (.cells #[.int .u32 p.src, .int .u32 p.dst, I64 p.proto, I64 p.ttl, I64 p.id, I64 p.off, .bool p.more, .slice (some ⟨b, o, none⟩) len cap] 30)) (by unfold maxLen; omega)
  have hpV : p.V = .agg #[.int .u32 p.src, .int .u32 p.dst, I64 p.proto, I64 p.ttl, I64 p.id, I64 p.off, .bool p.more, .slice (some ⟨b, o, none⟩) len cap] := by rw [← hlen, ← hPA, ← hcp]
  rw [hpV] at hVal ⊢
  have HA := hide hA
  have HO := hide (And.intro hO hB)
  have HV := hide hVal
  have HP := hide (show _ ∧ _ ∧ _ from ⟨hlen, hPA, hpV⟩)
  have HN := hide hN
  have HS := hide hsz
  clear hA hO hB hVal hlen hPA hpV hN hsz hcp
  have q1 : ¬ ((lim : Int) < 28) := by omega
  have q2 : ¬ ((len : Int) ≤ (lim : Int) - 20) := by omega
  have q3 : ((lim : Int) - 20) / 8 * 8 = (size : Int) := by have := HS.out; omega
  have q4 : ((lim : Int) - 20).tdiv 8 = ((lim : Int) - 20) / 8 := Int.tdiv_eq_ediv_of_nonneg (by omega)
  have s1 : 1 ≤ size := by have := HS.out; omega
  refine callsIn_of_wp_marks Try.func21 rfl trivial ?_ rfl
  simp only [Try.ntmps21, List.size_toArray, List.length_cons, List.length_nil, Nat.reduceAdd, Nat.reduceSub, Array.replicate_succ, Array.replicate_zero, List.push_toArray, List.append_toArray, List.nil_append, List.cons_append]
  gi_wp2_with (first
    | (refine ⟨trivial, ?_⟩; gi_at_call 27; refine (callsIn_wide.2 HV.out).mono ?_; rintro e w1 ⟨rfl, ho⟩
       have hq := ho.blk HO.out.2 (by simp)
       have e0 := hq.cell (i := 0) rfl
       have e1 := hq.cell (i := 1) rfl
       have e2 := hq.cell (i := 2) rfl
       have e3 := hq.cell (i := 3) rfl
       have e4 := hq.cell (i := 4) rfl
       have e5 := hq.cell (i := 5) rfl
       have e6 := hq.cell (i := 6) rfl
       have e7 := hq.cell (i := 7) rfl
       have lt0 := hq.lt
       have H1 := hide (And.intro (Only.trans HO.out.1 ho) hq)
       clear hq ho)
    | (refine ⟨trivial, ?_⟩; gi_at_call 65; refine (callsIn_wide.2 (chunk_ok (some ⟨b, o, none⟩) len cap size s1 _)).mono ?_; rintro e w2 ⟨rfl, rfl⟩))
  have hB6 : Blk ((((w1.alloc (.cells #[I64 size] 3)).alloc (.cells #[.slice none 0 0] 39)).alloc (.cells #[.slice (some ⟨b, o, none⟩) len cap] 28)).alloc (.cells #[I64 size] 3)) w1.heap.size 3 [I64 size] := (((Blk.newA (c := #[I64 size]) rfl).alloc _).alloc _).alloc _
  have hB7 : Blk ((((w1.alloc (.cells #[I64 size] 3)).alloc (.cells #[.slice none 0 0] 39)).alloc (.cells #[.slice (some ⟨b, o, none⟩) len cap] 28)).alloc (.cells #[I64 size] 3)) (w1.heap.size + 1) 39 [.slice none 0 0] := ((Blk.newA (c := #[.slice none 0 0]) (by simp)).alloc _).alloc _
  have hBs : Blk ((((w1.alloc (.cells #[I64 size] 3)).alloc (.cells #[.slice none 0 0] 39)).alloc (.cells #[.slice (some ⟨b, o, none⟩) len cap] 28)).alloc (.cells #[I64 size] 3)) (w1.heap.size + 1 + 1) 28 [.slice (some ⟨b, o, none⟩) len cap] := (Blk.newA (c := #[.slice (some ⟨b, o, none⟩) len cap]) (by simp)).alloc _
  have hBn : Blk ((((w1.alloc (.cells #[I64 size] 3)).alloc (.cells #[.slice none 0 0] 39)).alloc (.cells #[.slice (some ⟨b, o, none⟩) len cap] 28)).alloc (.cells #[I64 size] 3)) (w1.heap.size + 1 + 1 + 1) 3 [I64 size] := Blk.newA (c := #[I64 size]) (by simp)
  have hOn : Only [] w1 ((((w1.alloc (.cells #[I64 size] 3)).alloc (.cells #[.slice none 0 0] 39)).alloc (.cells #[.slice (some ⟨b, o, none⟩) len cap] 28)).alloc (.cells #[I64 size] 3)) := ((((Only.refl [] w1).alloc _).alloc _).alloc _).alloc _
  have hSz : ((((w1.alloc (.cells #[I64 size] 3)).alloc (.cells #[.slice none 0 0] 39)).alloc (.cells #[.slice (some ⟨b, o, none⟩) len cap] 28)).alloc (.cells #[I64 size] 3)).heap.size = w1.heap.size + 4 := by simp
  revert hB6 hB7 hBs hBn hOn hSz
  generalize ((((w1.alloc (.cells #[I64 size] 3)).alloc (.cells #[.slice none 0 0] 39)).alloc (.cells #[.slice (some ⟨b, o, none⟩) len cap] 28)).alloc (.cells #[I64 size] 3)) = W0
  intro hB6 hB7 hBs hBn hOn hSz
  have hBp := hOn.blk H1.out.2 (by simp)
  have lw := H1.out.2.lt
  have hN1 : N ≤ 1000000 := by
    have h1 := HN.out.1
    rcases N with _ | M
    · omega
    · rw [Nat.add_mul, Nat.one_mul] at h1
      have := Nat.le_mul_of_pos_right M s1
      omega
  have HW0 := hide (show _ ∧ _ ∧ _ ∧ _ ∧ _ ∧ _ from ⟨hB6, hB7, hBs, hBn, Only.trans H1.out.1 hOn, hBp⟩)
  refine wpIn_rangeFunc_ownG (F := Fence.wide) rfl (by omega) (gf := 96) (lb := #[.pointer (some ⟨w1.heap.size + 1 + 1, 0, none⟩), .pointer (some ⟨w1.heap.size + 1 + 1 + 1, 0, none⟩)]) rfl trivial (enters_of Try.func96 (by kernel_rfl) rfl)
    (encs := fun x : Piece len => #[.slice (some ⟨b, o + x.1.1, none⟩) x.1.2 x.1.2]) (Kp := KpB (w1.heap.size + 1) W0.heap.size) (S := fun ys => ys = pieces len size N) (Sp := fun _ => True) (N := N) (w0 := W0)
    (fun l J Jx W hW hJ hJx hY h0 => (chunk1_in Fence.wide 4 trivial rfl (by omega) l (w1.heap.size + 1 + 1) (w1.heap.size + 1 + 1 + 1) b o len cap size N (KpB (w1.heap.size + 1) W0.heap.size) (KpB.refl _ _) (fun h k => h.trans k) (fun W n => ⟨Nat.le_refl _, fun _ _ _ => rfl⟩)
      (fun h hc => h.cell (by omega) (by omega) hc) (fun h hc => h.cell (by omega) (by omega) hc) s1 (by have := HS.out; omega) (by omega) hcap HN.out J Jx (fun pre A B hA hg => hJ pre A B none hA hg (fun r e => by cases e)) hY W
      ((hW.cell (p := ⟨w1.heap.size + 1 + 1, 0, none⟩) (by show w1.heap.size + 1 + 1 < W0.heap.size; omega)).trans (HW0.out.2.2.1.cell (i := 0) rfl)) ((hW.cell (p := ⟨w1.heap.size + 1 + 1 + 1, 0, none⟩) (by show w1.heap.size + 1 + 1 + 1 < W0.heap.size; omega)).trans (HW0.out.2.2.2.1.cell (i := 0) rfl)) h0))
    (fun h k => h.trans k) (fun W l o o' hl _ _ _ => ⟨by simp, fun k hk _ => World.putObj_heap_other (by omega)⟩) (Below.refl _ _) (fun _ => rfl)
    (fun pre W => FragI p size (w1.heap.size + 1) W0 (pre.map (·.1)) W) (fun _ _ _ => False) (FragI.own p size len _ W0 (by omega)) (fun _ _ _ _ _ hs _ _ => hs) ?h0 ?a1 ?assign ?body ?done ?stop
  case h0 => exact ⟨_, [], HW0.out.2.1, World.ownsRow_nil _ _ _ _, rfl, fun k x hx => by simp at hx, Only.refl _ _⟩
  case assign =>
    intro l x W K hK
    gi_wp2
    exact hK
  case body =>
    rintro l pre ⟨⟨i, e⟩, hie⟩ W ⟨v, qs, k1, k2, k3, k4, k5⟩ hlt
    rw [List.length_map] at k2
    clear e0 e1 e2 e3 e4 e5 e6 e7 lt0 HV HO
    have kp := k5.blk HW0.out.2.2.2.2.2 (by simp; omega)
    have k6 := k5.blk HW0.out.1 (by simp)
    have e0 := kp.cell (i := 0) rfl
    have e1 := kp.cell (i := 1) rfl
    have e2 := kp.cell (i := 2) rfl
    have e3 := kp.cell (i := 3) rfl
    have e4 := kp.cell (i := 4) rfl
    have e5 := kp.cell (i := 5) rfl
    have e6 := kp.cell (i := 6) rfl
    have e7 := kp.cell (i := 7) rfl
    have g6 := k6.cell (i := 0) rfl
    have g7 := k1.cell (i := 0) rfl
    have z7 := k1.frozen 0
    have lp := kp.lt
    have l6 := k6.lt
    have l7 := k1.lt
    obtain ⟨A0, c0, rfl⟩ := own_shape k2
    have HI := hide (show _ ∧ _ ∧ _ ∧ _ ∧ _ from ⟨k1, k2, k3, k4, k5⟩)
    clear k1 k2 k3 k4 k5 kp k6
    have hpl : pre.length ≤ 1000000 := by omega
    have hcm : ((pre.length * size : Nat) : Int) = (pre.length : Int) * (size : Int) := Int.natCast_mul _ _
    have hpr : (pre.length : Int) * (size : Int) ≤ 1000000 := by
      have h1 := HN.out.1
      have h2 : pre.length * size + size ≤ N * size := by
        have := Nat.mul_le_mul_right size (show pre.length + 1 ≤ N by omega)
        rw [Nat.add_mul, Nat.one_mul] at this
        exact this
      have h3 : pre.length * size ≤ 1000000 := by omega
      rw [← hcm]
      omega
    have hpr0 : (0 : Int) ≤ (pre.length : Int) * (size : Int) := by
      rw [← hcm]
      omega
    have hoff : 0 ≤ p.off ∧ p.off ≤ 65528 := by
      unfold Pkt.valid at hv
      split at hv
      · omega
      · rename_i h; unfold Pkt.bad at h; omega
    obtain ⟨ho0, ho1⟩ := hoff
    have hdl : ((p.data.drop i).take e).length = e := by rw [List.length_take, List.length_drop, HP.out.1]; omega
    have hWO : Only [] W (W.alloc (.cells #[.int .u32 p.src, .int .u32 p.dst, I64 p.proto, I64 p.ttl, I64 p.id, I64 (p.off + (pre.length : Int) * (size : Int)), .bool true, .slice (some ⟨b, o, none⟩) len cap] 30)) := (Only.refl [] W).alloc _
    have hWB : Blk (W.alloc (.cells #[.int .u32 p.src, .int .u32 p.dst, I64 p.proto, I64 p.ttl, I64 p.id, I64 (p.off + (pre.length : Int) * (size : Int)), .bool true, .slice (some ⟨b, o, none⟩) len cap] 30)) W.heap.size 30 [.int .u32 p.src, .int .u32 p.dst, I64 p.proto, I64 p.ttl, I64 p.id, I64 (p.off + (pre.length : Int) * (size : Int)), .bool true, .slice (some ⟨b, o, none⟩) len cap] := Blk.newA rfl
    have hNu : NumsIn (W.alloc (.cells #[.int .u32 p.src, .int .u32 p.dst, I64 p.proto, I64 p.ttl, I64 p.id, I64 (p.off + (pre.length : Int) * (size : Int)), .bool true, .slice (some ⟨b, o, none⟩) len cap] 30)) .u8 (some ⟨b, o + i, none⟩) ((p.data.drop i).take e) := by
      intro k y hy
      have hk : k < e := by have := (List.getElem?_eq_some_iff.1 hy).1; omega
      rw [List.getElem?_take, if_pos hk, List.getElem?_drop] at hy
      obtain ⟨b', o', hA', hc⟩ := HA.out (i + k) y hy
      rw [HP.out.2.1] at hA'
      injection hA' with hA'
      injection hA' with h1 h2
      subst h1 h2
      refine ⟨b, o + i, rfl, ?_⟩
      have h3 : W.heap[b]? = w.heap[b]? := (HI.out.2.2.2.2.block b (by omega) (by simp; omega)).trans (HW0.out.2.2.2.2.1.block b hbw (by simp))
      rw [World.cell?_of_block (w := w) ((hWO.block b (by have := HI.out.2.2.2.2.size; omega) (by simp)).trans h3), Nat.add_assoc]
      exact hc
    have HWO := hide (And.intro hWO hWB)
    obtain ⟨i0, hi0, hz0, hz1, hz2⟩ := info_parts packet_info
    gi_wp2_with fail
    refine ⟨trivial, ?_⟩
    refine (CallsIn.inRound l (callsIn_wide.2 (clone_ok (some ⟨b, o + i, none⟩) ((p.data.drop i).take e) e e _ hdl hNu (by omega) (by simp)))).mono ?_
    rintro e5 W5 ⟨A', c', rfl, h1, h2, h3, h4⟩
    have hb5 := h1.blk hWB (by simp)
    have h7 := h1.blk (hWO.blk HI.out.1 (by simp)) (by simp)
    have hr5 := own_nil (own_nil HI.out.2.1 hWO) h1
    have f0 := hb5.cell (i := 0) rfl
    have f1 := hb5.cell (i := 1) rfl
    have f2 := hb5.cell (i := 2) rfl
    have f3 := hb5.cell (i := 3) rfl
    have f4 := hb5.cell (i := 4) rfl
    have f5 := hb5.cell (i := 5) rfl
    have f6 := hb5.cell (i := 6) rfl
    have f7 := hb5.cell (i := 7) rfl
    have z5 := hb5.frozen 7
    have g5 := h7.cell (i := 0) rfl
    have y5 := h7.frozen 0
    have l5 := hb5.lt
    have m5 := h7.lt
    have nb7 : W.heap.size ≠ w1.heap.size + 1 := by omega
    have H5 := hide (show _ ∧ _ ∧ _ ∧ _ ∧ _ from ⟨h1, hb5, h7, hr5, And.intro h2 (show ((p.data.drop i).take e).length ≤ c' by rw [hdl]; exact h4.1)⟩)
    clear h1 h2 h3 h4 hb5 h7 hr5 hWO hWB hNu e0 e1 e2 e3 e4 e5 e6 e7 g6 g7 z7 lp l6 l7
    have hfc : (fragOf p size pre.length (i, e) A' c').cells = [.int .u32 p.src, .int .u32 p.dst, I64 p.proto, I64 p.ttl, I64 p.id, I64 (p.off + (pre.length : Int) * (size : Int)), .bool true, .slice A' e c'] := by
      show [_, _, _, _, _, I64 (p.off + ((pre.length * size : Nat) : Int)), _, .slice A' ((p.data.drop i).take e).length c'] = _
      rw [hdl, hcm]
      rfl
    have HFC := hide hfc
    have hset5 : Only [W.heap.size] W5 (W5.setCell ⟨W.heap.size, 7, none⟩ (.slice A' e c')) := (Only.refl [W.heap.size] W5).set (.inl (by simp)) _
    have HS5 := hide hset5
    have HSz := hide hSz
    clear hfc hset5 hSz
    gi_wp2_with (gi_at_builtin; refine wpListIn_append_own _ rfl _ _ 39 rfl W0.heap.size 30 i0 (.agg zsP.toArray) 8 72 Try.underlying39 hi0 hz0 hz1 hz2 rfl (by decide) (.slice A0 pre.length c0) pre.length (qs.flatMap Pkt.cells) rfl ?_ ⟨W5.heap.size, 0, none⟩ 1 1 (fragOf p size pre.length (i, e) A' c').cells rfl rfl ?_ ?_ (by unfold maxLen; omega) (by omega) ?_ ?_)
    · exact (own_only H5.out.2.2.2.1 HS5.out (fun k hk => by
        have := (HI.out.2.1.lt k hk).2
        simp; omega)).alloc _
    · intro j u hu
      rw [show (⟨W5.heap.size, 0, none⟩ : Addr).add j = ⟨W5.heap.size, j, none⟩ by unfold Addr.add; split <;> simp_all]
      rw [HFC.out] at hu
      exact (Blk.newA (c := #[.int .u32 p.src, .int .u32 p.dst, I64 p.proto, I64 p.ttl, I64 p.id, I64 (p.off + (pre.length : Int) * (size : Int)), .bool true, .slice A' e c']) (by simp [World.setCell])).cell hu
    · rw [HFC.out]; simp [Value.oneCell']
    · have h1 := HS5.out.size
      have h2 := H5.out.1.size
      have h3 := HI.out.2.2.2.2.size
      have h4 := HWO.out.1.size
      rw [World.size_alloc]; omega
    · intro v3 W6 hown3 hgrow _
      have hSz := HSz.out
      obtain ⟨g', cap', rfl⟩ := ownsRow_succ hown3
      have hX0 : Only [] W (W5.setCell ⟨W.heap.size, 7, none⟩ (.slice A' e c')) := (Only.trans HWO.out.1 H5.out.1).trans' HS5.out (by intro i hi; simp at hi; omega)
      have hX := hX0.alloc (.cells #[.int .u32 p.src, .int .u32 p.dst, I64 p.proto, I64 p.ttl, I64 p.id, I64 (p.off + (pre.length : Int) * (size : Int)), .bool true, .slice A' e c'] 30)
      have hrx := own_only H5.out.2.2.2.1 HS5.out (fun k hk => by
        have := (HI.out.2.1.lt k hk).2
        simp; omega)
      have hB7x : Blk (W5.setCell ⟨W.heap.size, 7, none⟩ (.slice A' e c')) (w1.heap.size + 1) 39 [.slice A0 pre.length c0] := H5.out.2.2.1.far (by show w1.heap.size + 1 ≠ W.heap.size; omega) _
      have hB7g : Blk W6 (w1.heap.size + 1) 39 [.slice A0 pre.length c0] := (hB7x.alloc _).grown hgrow (own_ne_blk hrx hB7x (by decide))
      have hOT : OnlyT [30, 39] 0 W5 (W6.setCell ⟨w1.heap.size + 1, 0, none⟩ (.slice (some ⟨g', 0, none⟩) (pre.length + 1) cap')) :=
        (((OnlyT.of_only HS5.out (by
          intro k hk _
          obtain rfl : k = W.heap.size := by simpa using hk
          exact ⟨Nat.zero_le _, H5.out.2.1.hasT (by simp)⟩)).trans (.of_nil ((Only.refl [] _).alloc _))).trans (OnlyT.grown (hrx.alloc _) (by simp) (Nat.zero_le _) hgrow)).trans (.of_only (S := [w1.heap.size + 1]) ((Only.refl _ _).set (.inl (by simp)) _) (by
          intro k hk _
          obtain rfl : k = w1.heap.size + 1 := by simpa using hk
          exact ⟨Nat.zero_le _, hB7g.hasT (by simp)⟩))
      have d7 := hB7g.cell (i := 0) rfl
      have x7 := hB7g.frozen 0
      have hF : ∀ k, k < W.heap.size → k ≠ w1.heap.size + 1 → (Value.slice A0 pre.length c0).ownBlock ≠ some k → (W6.setCell ⟨w1.heap.size + 1, 0, none⟩ (.slice (some ⟨g', 0, none⟩) (pre.length + 1) cap')).heap[k]? = W.heap[k]? := fun k hk h1 h2 =>
        (Below.heap_setCell _ _ _ _ h1).trans ((hgrow.block k (Nat.lt_of_lt_of_le hk hX.size) (fun e => h2 e.symm)).trans (hX.block k hk (by simp)))
      have hsz7 : W.heap.size ≤ (W6.setCell ⟨w1.heap.size + 1, 0, none⟩ (.slice (some ⟨g', 0, none⟩) (pre.length + 1) cap')).heap.size := by
        have h1 := hX.size
        have h2 := hgrow.size
        simp [World.setCell] at h1 h2 ⊢
        omega
      have hgx := hgrow
      have HF := hide (show _ ∧ _ ∧ _ ∧ _ ∧ _ ∧ _ from ⟨hF, hsz7, hOT, hB7g, hown3, And.intro hX hgx⟩)
      have lt7 := hB7g.lt
      clear hF hsz7 hOT hB7g hown3 hX hX0 hgx hgrow hrx hB7x hSz f0 f1 f2 f3 f4 f5 f6 f7 z5 g5 y5 l5 m5
      gi_wp2
      obtain ⟨hF, hsz7, hOT, hB7g, hown3, hX, hgrow⟩ := HF.out
      have hSz := HSz.out
      refine ⟨⟨hsz7, fun k ob hk hko hnc => ?_⟩, ⟨hsz7, fun k hk hb => hF k (Nat.lt_of_lt_of_le hk HI.out.2.2.2.2.size) hb (fun e => ?_)⟩, .slice (some ⟨g', 0, none⟩) (pre.length + 1) cap', qs ++ [fragOf p size pre.length (i, e) A' c'], hB7g.set 0 _, ?_, ?_, fun k x hx => ?_, ?_⟩
      · have hkl : k < W.heap.size := (Array.getElem?_eq_some_iff.1 hko).1
        rw [hF k hkl ?_ ?_]
        · exact hko
        · rintro rfl
          have := HI.out.1
          unfold Blk at this
          rw [this] at hko
          cases hko
          simp [Obj.isCells] at hnc
        · intro e
          obtain ⟨-, c, t, fr, hc, -⟩ := own_hasT (Ts := [30]) HI.out.2.1 (by simp) (Nat.le_refl _) k e
          rw [hc] at hko
          cases hko
          simp [Obj.isCells] at hnc
      · have := (HI.out.2.1.lt k e).1
        omega
      · have := own_setCell hown3 (p := ⟨w1.heap.size + 1, 0, none⟩) (own_ne_blk hown3 hB7g (by decide)) (.slice (some ⟨g', 0, none⟩) (pre.length + 1) cap')
        simpa using this
      · simp [HI.out.2.2.1]
      · rw [List.map_append, List.map_cons, List.map_nil] at hx
        rcases Nat.lt_or_ge k pre.length with hk | hk
        · rw [List.getElem?_append_left (by simpa using hk)] at hx
          obtain ⟨A, c, h1, h2, h3⟩ := HI.out.2.2.2.1 k x hx
          refine ⟨A, c, ?_, ((h2.onlyT (OnlyT.of_nil (Ts := []) (base := 0) (Only.trans HWO.out.1 H5.out.1)) (by simp)).onlyT hOT (by decide)), h3⟩
          rw [List.getElem?_append_left (List.getElem?_eq_some_iff.1 h1).1]
          exact h1
        · have hk2 : k = pre.length := by
            have := (List.getElem?_eq_some_iff.1 hx).1
            simp at this
            omega
          subst hk2
          rw [List.getElem?_append_right (by simp)] at hx
          simp at hx
          subst hx
          refine ⟨A', c', ?_, H5.out.2.2.2.2.1.onlyT hOT (by decide), H5.out.2.2.2.2.2⟩
          have hq : qs.length = pre.length := by simpa using HI.out.2.2.1
          rw [List.getElem?_append_right (by omega), hq]
          simp
      · refine ⟨?_, ?_, ?_, Nat.le_trans HI.out.2.2.2.2.size hsz7, fun k hk hn => (hF k (Nat.lt_of_lt_of_le hk HI.out.2.2.2.2.size) (by simpa using hn) (fun e => by have := (HI.out.2.1.lt k e).1; omega)).trans (HI.out.2.2.2.2.block k hk hn)⟩
        · exact (hOT.os.trans (Only.trans HWO.out.1 H5.out.1).os).trans HI.out.2.2.2.2.os
        · exact (hOT.tape.trans (Only.trans HWO.out.1 H5.out.1).tape).trans HI.out.2.2.2.2.tape
        · exact (hOT.output.trans (Only.trans HWO.out.1 H5.out.1).output).trans HI.out.2.2.2.2.output
  case done =>
    rintro D ys W hD rfl ⟨v, qs, k1, k2, k3, k4, k5⟩ hK
    have hlN : (List.map (fun (x : Piece len) => x.1) (pieces len size N)).length = N := by rw [List.length_map, pieces_length]
    rw [hlN] at k2 k3
    obtain ⟨M, rfl⟩ : ∃ M, N = M + 1 := ⟨N - 1, by
      rcases N with _ | N
      · have := HN.out.2; omega
      · rfl⟩
    obtain ⟨g, cg, rfl⟩ := ownsRow_succ k2
    obtain ⟨hg0, hcg, hcm, rest, hBg, hrl⟩ := blk_of_row1 k2
    have kp := k5.blk HW0.out.2.2.2.2.2 (by simp; omega)
    clear e0 e1 e2 e3 e4 e5 e6 e7 lt0 HV HO
    have e6 := kp.cell (i := 6) rfl
    have g7 := k1.cell (i := 0) rfl
    obtain ⟨xl, hxl⟩ : ∃ x, qs[M]? = some x := ⟨_, List.getElem?_eq_getElem (by omega)⟩
    have hcl := flat_at (sz := 8) (enc := Pkt.cells) (fun _ => rfl) qs M xl 6 _ hxl rfl
    have hcc : W.cell? ⟨g, M * 8 + 6, none⟩ = some (.bool xl.more) := hBg.cell (by rw [List.getElem?_append_left (List.getElem?_eq_some_iff.1 hcl).1]; exact hcl)
    have zg := hBg.frozen (M * 8 + 6)
    have lg := hBg.lt
    have lp := kp.lt
    have l7 := k1.lt
    have HD := hide (show _ ∧ _ ∧ _ ∧ _ ∧ _ ∧ _ from ⟨hBg, k3, k4, k5, hxl, hK⟩)
    clear k1 k2 k3 k4 k5 hBg kp hxl hcl
    gi_wp2
    obtain ⟨hBg, k3, k4, k5, hxl, hK⟩ := HD.out
    have hgD : D ≠ g := by
      rintro rfl
      unfold Blk at hBg
      rw [hBg] at hK
      cases hK
    have hK' : (W.setCell ⟨g, M * 8 + 6, none⟩ (.bool p.more)).heap[D]? = some (.deferred (some [])) := (Below.heap_setCell _ _ _ D hgD).trans hK
    refine ⟨by simp, .inl ⟨_, _, rfl, run_takeDeferred hK', ?_⟩⟩
    refine ⟨_, results_tmp2 rfl _ _ _, g, cg, qs.set M { xl with more := p.more }, rest, rfl, ?_, by rw [List.length_set]; exact k3, hcg, fun k hk => ?_, ?_⟩
    · refine Blk.put (Blk.to (hBg.set _ _) ?_) hK' rfl
      exact flat_setj (sz := 8) (j := 6) (enc := Pkt.cells) (fun _ => rfl) (by decide) qs rest M xl hxl rfl
    · have hpk : (List.map (fun (x : Piece len) => x.1) (pieces len size (M + 1)))[k]? = some (pieceAt len size k).1 := by simp [pieces, hk]
      obtain ⟨A, c, h1, h2, h2c⟩ := k4 k _ hpk
      refine ⟨A, c, ?_, ?_, h2c⟩
      · rcases Nat.lt_or_ge k M with h3 | h3
        · rw [List.getElem?_set_ne (by omega), h1]
          unfold fragF
          rw [if_neg (by omega)]
          rfl
        · obtain rfl : k = M := by omega
          rw [h1] at hxl
          injection hxl with hxl
          rw [List.getElem?_set_self (by omega), ← hxl]
          unfold fragF
          rw [if_pos rfl]
      · rcases h2 with h2 | ⟨g5, r5, rfl, hb5⟩
        · exact .inl h2
        · exact .inr ⟨g5, r5, rfl, Blk.put (hb5.far (by show g5 ≠ g; exact hb5.ne hBg (by decide)) _) hK' rfl⟩
    · have h1 : Only [] w W := HW0.out.2.2.2.2.1.trans' k5 (by intro i hi; simp at hi; omega)
      have h2 := h1.set (p := ⟨g, M * 8 + 6, none⟩) (.inr (by show w.heap.size ≤ g; omega)) (.bool p.more)
      exact ⟨h2.os, h2.tape, h2.output, by have := h2.size; simpa using this, fun k hk hn => (World.putObj_heap_other (by have := HW0.out.2.2.2.2.1.size; omega)).trans (h2.block k hk hn)⟩
  case stop =>
    rintro D c pre W _ _ h _
    exact h.elim

end Go.Proofs.Ytlnejlhdkmneeaa
