/- Fragment where it does not cut: the whole packet, or none. -/
import Derived.Test.YtlnejlhdkmneeaaRefB
namespace Go.Proofs.Ytlnejlhdkmneeaa
open Go.RowKit

/-- N packets, as F says, in a row of their own. -/
def FragOut (T : TypeId) (F : Nat → Pkt) (N : Nat) (w : World) (e : Ending) (w' : World) : Prop :=
  ∃ g c qs rest, e = .returned (.tuple #[.slice (some ⟨g, 0, none⟩) N c, I64 0]) ∧ Blk w' g T (List.flatMap Pkt.cells qs ++ rest) ∧ (∀ k, k < N → ∃ A c, qs[k]? = some ((F k).at A c) ∧ NumsIn w' .u8 A (F k).data) ∧ Only [] w w'

theorem FragS.out {p : Pkt} {len size N : Nat} {w w' : World} {e : Ending} (h : FragS p len size N w e w') : FragOut 30 (fun k => fragF p len size N k none 0) N w e w' := by
  obtain ⟨g, c, qs, rest, h1, h2, -, -, h3, h4⟩ := h
  refine ⟨g, c, qs, rest, h1, h2, fun k hk => ?_, h4⟩
  obtain ⟨A, c, h5, h6⟩ := h3 k hk
  exact ⟨A, c, h5, h6.nums⟩
theorem RFragS.out {p : Pkt} {len size N : Nat} {w w' : World} {e : Ending} (h : RFragS p len size N w e w') : FragOut 45 (fun k => fragF p len size N k none 0) N w e w' := by
  obtain ⟨g, c, qs, rest, h1, h2, -, -, h3, h4⟩ := h
  refine ⟨g, c, qs, rest, h1, h2, fun k hk => ?_, h4⟩
  obtain ⟨A, c, h5, h6⟩ := h3 k hk
  exact ⟨A, c, h5, h6.nums⟩

/-- What clone answers. -/
def PClonedS (p : Pkt) (w : World) (e : Ending) (w' : World) : Prop := ∃ A c, e = .returned (p.at A c).V ∧ Only [] w w' ∧ NumsIn w' .u8 A p.data

set_option maxRecDepth 100000 in
set_option maxHeartbeats 4000000 in
theorem pclone_ok (p : Pkt) (w : World) (hA : NumsIn w .u8 p.A p.data) (hsz : p.data.length ≤ 1000000) (hA0 : p.A = none → p.data.length = 0 ∧ p.cap = 0) :
    Calls Try.prog 64 #[p.V] w fun e w' => PClonedS p w e w' := by
  have hO : Only [] w ((w.alloc (.cells #[.int .u32 p.src, .int .u32 p.dst, I64 p.proto, I64 p.ttl, I64 p.id, I64 p.off, .bool p.more, .slice p.A p.data.length p.cap] 30)).alloc (.cells zsP.toArray 30)) := ((Only.refl [] w).alloc _).alloc _
  have h1 : Blk ((w.alloc (.cells #[.int .u32 p.src, .int .u32 p.dst, I64 p.proto, I64 p.ttl, I64 p.id, I64 p.off, .bool p.more, .slice p.A p.data.length p.cap] 30)).alloc (.cells zsP.toArray 30)) w.heap.size 30 [.int .u32 p.src, .int .u32 p.dst, I64 p.proto, I64 p.ttl, I64 p.id, I64 p.off, .bool p.more, .slice p.A p.data.length p.cap] := (Blk.newA rfl).alloc _
  have h2 : Blk ((w.alloc (.cells #[.int .u32 p.src, .int .u32 p.dst, I64 p.proto, I64 p.ttl, I64 p.id, I64 p.off, .bool p.more, .slice p.A p.data.length p.cap] 30)).alloc (.cells zsP.toArray 30)) (w.heap.size + 1) 30 zsP := Blk.newA (by simp)
  have HA := hide hA
  have HO := hide (show _ ∧ _ ∧ _ from ⟨hO, h1, h2⟩)
  have H0 := hide hA0
  show Calls Try.prog 64 #[.agg #[.int .u32 p.src, .int .u32 p.dst, I64 p.proto, I64 p.ttl, I64 p.id, I64 p.off, .bool p.more, .slice p.A p.data.length p.cap]] w _
  clear hA hO h1 h2 hA0
  go_enter Try.func64, Try.ntmps64
  go_wp2_with fail
  refine (clone_ok p.A p.data p.data.length p.cap _ rfl (HA.out.only HO.out.1) hsz H0.out).mono ?_
  rintro e w1 ⟨A', c', rfl, ho, hbb, -, -, -⟩
  have k1 := ho.blk HO.out.2.1 (by simp)
  have k2 := ho.blk HO.out.2.2 (by simp)
  have f0 := k1.cell (i := 0) rfl
  have f1 := k1.cell (i := 1) rfl
  have f2 := k1.cell (i := 2) rfl
  have f3 := k1.cell (i := 3) rfl
  have f4 := k1.cell (i := 4) rfl
  have f5 := k1.cell (i := 5) rfl
  have f6 := k1.cell (i := 6) rfl
  have f7 := k1.cell (i := 7) rfl
  have z7 := k1.frozen 7
  have lt1 := k1.lt
  have lt2 := k2.lt
  have k3 : Blk (w1.setCell ⟨w.heap.size, 7, none⟩ (.slice A' p.data.length c')) (w.heap.size + 1) 30 zsP := k2.far (by simp) _
  have k4 : Only [w.heap.size] w1 (w1.setCell ⟨w.heap.size, 7, none⟩ (.slice A' p.data.length c')) := (Only.refl _ _).set (.inl (by simp)) _
  have K := hide (show _ ∧ _ ∧ _ ∧ _ ∧ _ from ⟨Only.trans HO.out.1 ho, k3, k4, hbb, k1⟩)
  clear k1 k2 k3 k4 ho hbb HO
  go_wp2_with (refine wpList_store_cells rfl 30 (.tmp 2) (.tmp 7) rfl (w.heap.size + 1) 0 rfl [.int .u32 p.src, .int .u32 p.dst, I64 p.proto, I64 p.ttl, I64 p.id, I64 p.off, .bool p.more, .slice A' p.data.length c'] rfl 30 zsP K.out.2.1 (by exact Nat.le_refl _) (by kernel_rfl) (by simp [Value.oneCell']) ?_; intro v1 hw3)
  have ho2 : Only [] w v1 := (K.out.1.trans' K.out.2.2.1 (by intro i hi; simp at hi; omega)).trans' hw3.2.1 (by intro i hi; simp at hi; omega)
  have hb2 : BytesBlk v1 A' p.data := (K.out.2.2.2.1.onlyT (OnlyT.of_only (Ts := [30]) (base := 0) K.out.2.2.1 (fun j hj _ => ⟨Nat.zero_le _, by simp at hj; subst hj; exact K.out.2.2.2.2.hasT (by simp)⟩)) (by decide)).onlyT (OnlyT.of_only (Ts := [30]) (base := 0) hw3.2.1 (fun j hj _ => ⟨Nat.zero_le _, by simp at hj; subst hj; exact K.out.2.1.hasT (by simp)⟩)) (by decide)
  refine bodyPost_ret (results_cell1 rfl _ _ _ rfl (load_pkt (p := p.at A' c') (Blk.to hw3.1 (by rfl)))) rfl ?_
  exact ⟨A', c', rfl, ho2, hb2.nums⟩

end Go.Proofs.Ytlnejlhdkmneeaa
