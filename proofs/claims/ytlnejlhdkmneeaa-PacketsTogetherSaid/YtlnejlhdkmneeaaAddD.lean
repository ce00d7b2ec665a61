/- The reassembly: its memory; key, New, Collections. -/
import Derived.Test.YtlnejlhdkmneeaaAddC
import Derived.Test.YtlnejlhdkmneeaaAddA
namespace Go.Proofs.Ytlnejlhdkmneeaa
open Go.RowKit

abbrev rzmT : TypeId := 142

abbrev zsK : List Value := [.int .u32 0, .int .u32 0, I64 0, I64 0]
theorem build_key (s d p i : Int) : ∀ w : World, (Instr.build keyT #[(0, .int .u32 s), (1, .int .u32 d), (2, I64 p), (3, I64 i)]).run Try.prog w = .ok (.agg #[.int .u32 s, .int .u32 d, I64 p, I64 i]) w := fun _ => by kernel_rfl
theorem load_key {w : World} {b : Nat} {s d p i : Int} (h : Blk w b keyT [.int .u32 s, .int .u32 d, I64 p, I64 i]) : (loadVar keyT ⟨b, 0, none⟩).run Try.prog w = .ok (keyV s d p i) w :=
  run_loadVar_cells w b 0 _ [.int .u32 s, .int .u32 d, I64 p, I64 i] (d := _) (fun j v hv => by rw [Nat.zero_add]; exact h.cell hv) Try.underlying150 rfl (by kernel_rfl)
set_option maxRecDepth 100000 in
set_option maxHeartbeats 4000000 in
theorem key_ok (p : Pkt) (w : World) :
    Calls Try.prog 75 #[p.V] w fun e w' => e = .returned (keyV p.src p.dst p.proto p.id) ∧ Only [] w w' := by
  show Calls Try.prog 75 #[.agg #[.int .u32 p.src, .int .u32 p.dst, I64 p.proto, I64 p.ttl, I64 p.id, I64 p.off, .bool p.more, .slice p.A p.data.length p.cap]] w _
  have hO : Only [] w ((w.alloc (.cells #[.int .u32 p.src, .int .u32 p.dst, I64 p.proto, I64 p.ttl, I64 p.id, I64 p.off, .bool p.more, .slice p.A p.data.length p.cap] pktT)).alloc (.cells zsK.toArray keyT)) := ((Only.refl [] w).alloc _).alloc _
  have h2 : Blk ((w.alloc (.cells #[.int .u32 p.src, .int .u32 p.dst, I64 p.proto, I64 p.ttl, I64 p.id, I64 p.off, .bool p.more, .slice p.A p.data.length p.cap] pktT)).alloc (.cells zsK.toArray keyT)) (w.heap.size + 1) keyT zsK := Blk.newA (by simp)
  have hb := build_key p.src p.dst p.proto p.id
  have K := hide (And.intro hO h2)
  clear hO h2
  go_enter Try.func75, Try.ntmps75
  go_wp2_with (refine wpList_store_cells rfl keyT (.tmp 2) (.tmp 11) rfl (w.heap.size + 1) 0 rfl [.int .u32 p.src, .int .u32 p.dst, I64 p.proto, I64 p.id] rfl keyT zsK K.out.2 (by exact Nat.le_refl _) (by kernel_rfl) (by simp [Value.oneCell']) ?_; intro v1 hw3)
  have ho2 : Only [] w v1 := K.out.1.trans' hw3.2.1 (by intro i hi; simp at hi; omega)
  refine bodyPost_ret (results_cell1 rfl _ _ _ rfl (load_key (Blk.to hw3.1 (by rfl)))) rfl ?_
  exact ⟨rfl, ho2⟩

theorem build_rz (b : Nat) : ∀ w : World, (Instr.build rasT #[(0, .map (some b))]).run Try.prog w = .ok (.agg #[.map (some b), I64 0, I64 0]) w := fun _ => by kernel_rfl
set_option maxRecDepth 100000 in
set_option maxHeartbeats 4000000 in
theorem newRz_ok (w : World) : Calls Try.prog 34 #[] w fun e w' => e = .returned (.pointer (some ⟨w.heap.size + 1, 0, none⟩)) ∧ PtrMap w' keyT w.heap.size 0 0 (fun _ => none) ∧ Blk w' (w.heap.size + 1) rasT [.map (some w.heap.size), I64 0, .int .i64 0] ∧ Only [] w w' ∧ w'.heap.size = w.heap.size + 2 := by
  have hb := build_rz w.heap.size
  have hmk := run_makeMap (P := Try.prog) rzmT w
  go_enter Try.func34, Try.ntmps34
  go_wp2
  go_ret
  have hM := PtrMap.made w keyT 0
  have ho : Only [] w ((w.alloc (.map #[] 0)).alloc (.cells #[.map (some w.heap.size), I64 0, I64 0] rasT)) := ((Only.refl [] w).alloc _).alloc _
  exact ⟨by simp, hM.alloc _, Blk.newA (by simp), ho, by simp⟩

set_option maxRecDepth 100000 in
set_option maxHeartbeats 4000000 in
theorem collections_ok (r b m s : Nat) (f : Lit → Option Nat) (num now : Int) (w : World) (h : Blk w r rasT [.map (some b), I64 num, .int .i64 now]) (hm : PtrMap w keyT b m s f) :
    Calls Try.prog 38 #[.pointer (some ⟨r, 0, none⟩)] w fun e w' => e = .returned (I64 (s : Nat)) ∧ w' = w := by
  have r0 := h.cell (i := 0) rfl
  have lt := h.lt
  have hl := hm.len (t := rzmT) Try.underlying142 3
  clear h hm
  go_enter Try.func38, Try.ntmps38
  go_wp2
  go_ret
  trivial

end Go.Proofs.Ytlnejlhdkmneeaa
