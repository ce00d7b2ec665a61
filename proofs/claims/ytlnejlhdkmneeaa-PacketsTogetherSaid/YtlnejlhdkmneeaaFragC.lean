/- Fragment, with the capacities of what it answers. -/
import Derived.Test.YtlnejlhdkmneeaaRefF
import Derived.Test.YtlnejlhdkmneeaaResB
import Derived.Test.YtlnejlhdkmneeaaTogQ
namespace Go.Proofs.Ytlnejlhdkmneeaa
open Go.RowKit

/-- Packets that lie in a row, with their bytes and capacities. -/
def LieC (w : World) (l qs : List Pkt) : Prop := qs.length = l.length ∧ ∀ (k : Nat) (p : Pkt), l[k]? = some p → ∃ A c, qs[k]? = some (p.at A c) ∧ BytesCap w A c p.data ∧ (A = none → p.data = [] ∧ c = 0)
theorem BytesCap.only {w w' : World} {A : Option Addr} {c : Nat} {d : List Nat} (h : BytesCap w A c d) (ho : Only [] w w') : BytesCap w' A c d := ⟨h.1.sameOn (fun j cs hj => ho.block j hj.lt (by simp)), h.2⟩
theorem LieC.only {w w' : World} {l qs : List Pkt} (h : LieC w l qs) (ho : Only [] w w') : LieC w' l qs :=
  ⟨h.1, fun k p hp => by obtain ⟨A, c, h1, h2, h3⟩ := h.2 k p hp; exact ⟨A, c, h1, h2.only ho, h3⟩⟩
theorem LieC.nil (w : World) : LieC w [] [] := ⟨rfl, fun k p hp => by simp at hp⟩
theorem LieC.append {w : World} {l l' qs qs' : List Pkt} (h : LieC w l qs) (h' : LieC w l' qs') : LieC w (l ++ l') (qs ++ qs') := by
  refine ⟨by rw [List.length_append, List.length_append, h.1, h'.1], fun k p hp => ?_⟩
  rcases Nat.lt_or_ge k l.length with hk | hk
  · rw [List.getElem?_append_left hk] at hp
    obtain ⟨A, c, h1, h2⟩ := h.2 k p hp
    exact ⟨A, c, by rw [List.getElem?_append_left (by rw [h.1]; exact hk)]; exact h1, h2⟩
  · rw [List.getElem?_append_right hk] at hp
    obtain ⟨A, c, h1, h2⟩ := h'.2 _ p hp
    exact ⟨A, c, by rw [List.getElem?_append_right (by rw [h.1]; exact hk), h.1]; exact h1, h2⟩
/-- What Fragment answers. -/
def FragC (l : List Pkt) (w : World) (e : Ending) (w' : World) : Prop :=
  ∃ g c qs, e = .returned (.tuple #[.slice (some ⟨g, 0, none⟩) l.length c, I64 0]) ∧ (∀ j u, (qs.flatMap Pkt.cells)[j]? = some u → w'.cell? ⟨g, j, none⟩ = some u) ∧ LieC w' l qs ∧ Only [] w w'
def PCloneC (p : Pkt) (w : World) (e : Ending) (w' : World) : Prop := ∃ A c, e = .returned (p.at A c).V ∧ Only [] w w' ∧ BytesBlk w' A p.data ∧ p.data.length ≤ c ∧ (A = none → p.data = [] ∧ c = 0)

set_option maxRecDepth 100000 in
set_option maxHeartbeats 4000000 in
theorem pcloneC_ok (p : Pkt) (w : World) (hA : NumsIn w .u8 p.A p.data) (hsz : p.data.length ≤ 1000000) (hA0 : p.A = none → p.data.length = 0 ∧ p.cap = 0) :
    Calls Try.prog 64 #[p.V] w fun e w' => PCloneC p w e w' := by
  have hO : Only [] w ((w.alloc (.cells #[.int .u32 p.src, .int .u32 p.dst, I64 p.proto, I64 p.ttl, I64 p.id, I64 p.off, .bool p.more, .slice p.A p.data.length p.cap] 30)).alloc (.cells zsP.toArray 30)) := ((Only.refl [] w).alloc _).alloc _
  have h1 : Blk ((w.alloc (.cells #[.int .u32 p.src, .int .u32 p.dst, I64 p.proto, I64 p.ttl, I64 p.id, I64 p.off, .bool p.more, .slice p.A p.data.length p.cap] 30)).alloc (.cells zsP.toArray 30)) w.heap.size 30 [.int .u32 p.src, .int .u32 p.dst, I64 p.proto, I64 p.ttl, I64 p.id, I64 p.off, .bool p.more, .slice p.A p.data.length p.cap] := (Blk.newA rfl).alloc _
  have h2 : Blk ((w.alloc (.cells #[.int .u32 p.src, .int .u32 p.dst, I64 p.proto, I64 p.ttl, I64 p.id, I64 p.off, .bool p.more, .slice p.A p.data.length p.cap] 30)).alloc (.cells zsP.toArray 30)) (w.heap.size + 1) 30 zsP := Blk.newA (by simp)
  have HA := hide hA
  have HO := hide (show _ ∧ _ ∧ _ from ⟨hO, h1, h2⟩)
  have H0 := hide hA0
  show Calls Try.prog 64 #[.agg #[.int .u32 p.src, .int .u32 p.dst, I64 p.proto, I64 p.ttl, I64 p.id, I64 p.off, .bool p.more, .slice p.A p.data.length p.cap]] w _
  clear hA hO h1 h2 hA0
  go_enter Try.func64, Try.ntmps64
  go_wp2_with fail
  refine (clone_ok p.A p.data p.data.length p.cap _ rfl (HA.out.only HO.out.1) hsz H0.out).mono ?_
  rintro e w1 ⟨A', c', rfl, ho, hbb, hnn, hcap, -⟩
  have HCAP := hide (show p.data.length ≤ c' ∧ (A' = none → p.data = [] ∧ c' = 0) from ⟨hcap, fun e => ⟨List.eq_nil_of_length_eq_zero (hnn e).1, (hnn e).2⟩⟩)
  clear hcap hnn
  have k1 := ho.blk HO.out.2.1 (by simp)
  have k2 := ho.blk HO.out.2.2 (by simp)
  have f0 := k1.cell (i := 0) rfl
  have f1 := k1.cell (i := 1) rfl
  have f2 := k1.cell (i := 2) rfl
  have f3 := k1.cell (i := 3) rfl
  have f4 := k1.cell (i := 4) rfl
  have f5 := k1.cell (i := 5) rfl
  have f6 := k1.cell (i := 6) rfl
  have f7 := k1.cell (i := 7) rfl
  have z7 := k1.frozen 7
  have lt1 := k1.lt
  have lt2 := k2.lt
  have k3 : Blk (w1.setCell ⟨w.heap.size, 7, none⟩ (.slice A' p.data.length c')) (w.heap.size + 1) 30 zsP := k2.far (by simp) _
  have k4 : Only [w.heap.size] w1 (w1.setCell ⟨w.heap.size, 7, none⟩ (.slice A' p.data.length c')) := (Only.refl _ _).set (.inl (by simp)) _
  have K := hide (show _ ∧ _ ∧ _ ∧ _ ∧ _ from ⟨Only.trans HO.out.1 ho, k3, k4, hbb, k1⟩)
  clear k1 k2 k3 k4 ho hbb HO
  go_wp2_with (refine wpList_store_cells rfl 30 (.tmp 2) (.tmp 7) rfl (w.heap.size + 1) 0 rfl [.int .u32 p.src, .int .u32 p.dst, I64 p.proto, I64 p.ttl, I64 p.id, I64 p.off, .bool p.more, .slice A' p.data.length c'] rfl 30 zsP K.out.2.1 (by exact Nat.le_refl _) (by kernel_rfl) (by simp [Value.oneCell']) ?_; intro v1 hw3)
  have ho2 : Only [] w v1 := (K.out.1.trans' K.out.2.2.1 (by intro i hi; simp at hi; omega)).trans' hw3.2.1 (by intro i hi; simp at hi; omega)
  have hb2 : BytesBlk v1 A' p.data := (K.out.2.2.2.1.onlyT (OnlyT.of_only (Ts := [30]) (base := 0) K.out.2.2.1 (fun j hj _ => ⟨Nat.zero_le _, by simp at hj; subst hj; exact K.out.2.2.2.2.hasT (by simp)⟩)) (by decide)).onlyT (OnlyT.of_only (Ts := [30]) (base := 0) hw3.2.1 (fun j hj _ => ⟨Nat.zero_le _, by simp at hj; subst hj; exact K.out.2.1.hasT (by simp)⟩)) (by decide)
  refine bodyPost_ret (results_cell1 rfl _ _ _ rfl (load_pkt (p := p.at A' c') (Blk.to hw3.1 (by rfl)))) rfl ?_
  exact ⟨A', c', rfl, ho2, hb2, HCAP.out⟩


set_option maxRecDepth 100000 in
set_option maxHeartbeats 4000000 in
theorem fragC_one (p : Pkt) (lim : Int) (w : World) (hl : p.data.length ≤ 1000000) (hb : ¬ p.bad) (h28 : 28 ≤ lim) (hlm : lim ≤ 9223372036854775807) (hle : (p.data.length : Int) ≤ lim - 20) (hA : NumsIn w .u8 p.A p.data) (hA0 : p.A = none → p.data.length = 0 ∧ p.cap = 0) :
    Calls Try.prog 21 #[p.V, I64 lim] w fun e w' => FragC [p] w e w' := by
  have hO : Only [] w (w.alloc (.cells #[.int .u32 p.src, .int .u32 p.dst, I64 p.proto, I64 p.ttl, I64 p.id, I64 p.off, .bool p.more, .slice p.A p.data.length p.cap] 30)) := (Only.refl [] w).alloc _
  have hB : Blk (w.alloc (.cells #[.int .u32 p.src, .int .u32 p.dst, I64 p.proto, I64 p.ttl, I64 p.id, I64 p.off, .bool p.more, .slice p.A p.data.length p.cap] 30)) w.heap.size 30 [.int .u32 p.src, .int .u32 p.dst, I64 p.proto, I64 p.ttl, I64 p.id, I64 p.off, .bool p.more, .slice p.A p.data.length p.cap] := Blk.newA rfl
  show Calls Try.prog 21 #[.agg #[.int .u32 p.src, .int .u32 p.dst, I64 p.proto, I64 p.ttl, I64 p.id, I64 p.off, .bool p.more, .slice p.A p.data.length p.cap], I64 lim] w _
  have HA := hide hA
  have HO := hide (And.intro hO hB)
  have H0 := hide hA0
  have HBD := hide hb
  clear hO hB hA hA0 hb
  go_enter Try.func21, Try.ntmps21
  go_wp2_with fail
  refine (Valid_ok p _ (by unfold maxLen; omega)).mono ?_
  rintro e w1 ⟨rfl, ho⟩
  rw [Pkt.valid_good HBD.out]
  have hq := ho.blk HO.out.2 (by simp)
  have e0 := hq.cell (i := 0) rfl
  have e1 := hq.cell (i := 1) rfl
  have e2 := hq.cell (i := 2) rfl
  have e3 := hq.cell (i := 3) rfl
  have e4 := hq.cell (i := 4) rfl
  have e5 := hq.cell (i := 5) rfl
  have e6 := hq.cell (i := 6) rfl
  have e7 := hq.cell (i := 7) rfl
  have ltq := hq.lt
  have H1 := hide (Only.trans HO.out.1 ho)
  clear hq ho HO
  go_wp2_with fail
  refine (pcloneC_ok p _ (HA.out.only H1.out) hl H0.out).mono ?_
  rintro e w2 ⟨A', c', rfl, ho2, hn, hn2, hn3⟩
  have hbk : Blk (w2.alloc (.cells #[.int .u32 p.src, .int .u32 p.dst, I64 p.proto, I64 p.ttl, I64 p.id, I64 p.off, .bool p.more, .slice A' p.data.length c'] 30)) w2.heap.size 30 [.int .u32 p.src, .int .u32 p.dst, I64 p.proto, I64 p.ttl, I64 p.id, I64 p.off, .bool p.more, .slice A' p.data.length c'] := Blk.newA rfl
  have hon : Only [] w2 (w2.alloc (.cells #[.int .u32 p.src, .int .u32 p.dst, I64 p.proto, I64 p.ttl, I64 p.id, I64 p.off, .bool p.more, .slice A' p.data.length c'] 30)) := (Only.refl [] w2).alloc _
  have H2 := hide (show _ ∧ _ ∧ _ from ⟨Only.trans (Only.trans H1.out ho2) hon, hbk, (show BytesCap _ A' c' p.data ∧ (A' = none → p.data = [] ∧ c' = 0) from ⟨⟨hn.sameOn (fun j cs hj => hon.block j hj.lt (by simp)), hn2⟩, hn3⟩)⟩)
  clear ho2 hn hn2 hn3 hbk hon e0 e1 e2 e3 e4 e5 e6 e7 ltq
  go_wp2
  go_ret2
  refine ⟨w2.heap.size, 1, [p.at A' c'], rfl, fun j u hu => H2.out.2.1.cell (by have h9 := hu; simp only [List.flatMap_cons, List.flatMap_nil, List.append_nil] at h9; exact h9), ⟨rfl, fun k q hq => ?_⟩, H2.out.1⟩
  cases k with
  | zero =>
    obtain rfl : p = q := by simpa using hq
    exact ⟨A', c', rfl, H2.out.2.2.1, H2.out.2.2.2⟩
  | succ k => simp at hq


/-- The fragments of a packet for a limit n. -/
def fragsL (p : Pkt) (n : Nat) : List Pkt :=
  if p.data.length ≤ n - 20 then [p]
  else (List.range ((p.data.length + (n - 20) / 8 * 8 - 1) / ((n - 20) / 8 * 8))).map fun k => fragF p p.data.length ((n - 20) / 8 * 8) ((p.data.length + (n - 20) / 8 * 8 - 1) / ((n - 20) / 8 * 8)) k none 0
theorem ceil_ok (len size : Nat) (hs : 0 < size) : (len + size - 1) / size * size < len + size ∧ len ≤ (len + size - 1) / size * size := by
  have h1 := Nat.div_add_mod (len + size - 1) size
  have h2 := Nat.mod_lt (len + size - 1) hs
  rw [Nat.mul_comm] at h1
  omega
theorem frag_ne {p : Pkt} {len size N k : Nat} (hlen : p.data.length = len) (hs : 0 < size) (hN : N * size < len + size) (hk : k < N) : (fragF p len size N k none 0).data ≠ [] := by
  intro h
  have h1 := congrArg List.length h
  have h2 : (k + 1) * size ≤ N * size := Nat.mul_le_mul_right size hk
  rw [Nat.add_mul] at h2
  have h3 : (fragF p len size N k none 0).data.length = ((p.data.drop (min (k * size) len)).take (min size (len - k * size))).length := rfl
  rw [h3, List.length_take, List.length_drop, hlen] at h1
  simp only [List.length_nil] at h1
  omega
theorem FragS.c {p : Pkt} {len size N : Nat} {w w' : World} {e : Ending} (h : FragS p len size N w e w') (hne : ∀ k, k < N → (fragF p len size N k none 0).data ≠ []) : FragC ((List.range N).map fun k => fragF p len size N k none 0) w e w' := by
  obtain ⟨g, c, qs, rest, h1, h2, h3, -, h4, h5⟩ := h
  refine ⟨g, c, qs, by rw [List.length_map, List.length_range]; exact h1, fun j u hu => h2.cell ?_, ⟨by rw [List.length_map, List.length_range]; exact h3, fun k q hq => ?_⟩, h5⟩
  · rw [List.getElem?_append_left (List.getElem?_eq_some_iff.1 hu).1]
    exact hu
  · rw [List.getElem?_map] at hq
    have hk : k < N := by
      rcases Nat.lt_or_ge k N with h6 | h6
      · exact h6
      · rw [List.getElem?_eq_none (by simpa using h6)] at hq; cases hq
    rw [List.getElem?_range hk] at hq
    obtain rfl : fragF p len size N k none 0 = q := by simpa using hq
    obtain ⟨A, c, h6, h7⟩ := h4 k hk
    refine ⟨A, c, h6, h7, fun e => ?_⟩
    subst e
    rcases h7.1 with h8 | ⟨g5, r5, h8, -⟩
    · exact absurd h8 (hne k hk)
    · cases h8
theorem fragC_ok (p : Pkt) (n : Nat) (w : World) (hl : p.data.length ≤ 100000) (hb : ¬ p.bad) (h28 : 28 ≤ n) (hn : n ≤ 100000) (hA : NumsIn w .u8 p.A p.data) (hA0 : p.A = none → p.data.length = 0 ∧ p.cap = 0) (hcap : p.data.length ≤ p.cap) :
    Calls Try.prog 21 #[p.V, I64 (n : Int)] w fun e w' => FragC (fragsL p n) w e w' := by
  unfold fragsL
  by_cases hle : p.data.length ≤ n - 20
  · rw [if_pos hle]
    exact fragC_one p n w (by omega) hb (by omega) (by omega) (by omega) hA hA0
  · rw [if_neg hle]
    have hne : p.data ≠ [] := by rintro h; rw [h] at hle; simp at hle
    obtain ⟨b, o, hPA, hc⟩ := hA 0 (p.data[0]'(List.length_pos_iff.2 hne)) (List.getElem?_eq_getElem _)
    have hs : 0 < (n - 20) / 8 * 8 := by omega
    exact (callsIn_wide.1 (cut_in p n ((n - 20) / 8 * 8) p.data.length p.cap b o _ w rfl rfl hPA (Pkt.valid_good hb) (by omega) (by omega) (by omega) (by omega) hcap (ceil_ok _ _ hs) hA (World.block_lt_of_cell? _ _ hc))).mono fun _ _ h => h.c fun k hk => frag_ne rfl hs (ceil_ok _ _ hs).1 hk
/-- They are a chain. -/
theorem fragsL_chain {p f : Pkt} {a b n : Nat} {m : Bool} (h : Seg p a b m f) (hlen : f.data.length = b - a) (h28 : 28 ≤ n) : Chain p a b m (fragsL f n) := by
  unfold fragsL
  split
  · exact .one h
  · rw [hlen]
    exact frag_chain h (by omega) (by omega) (ceil_ok _ _ (by omega)) hlen

end Go.Proofs.Ytlnejlhdkmneeaa
