/- ref, same, slices.Equal where they are equal. -/
import Derived.Test.YtlnejlhdkmneeaaRefV
namespace Go.Proofs.Ytlnejlhdkmneeaa
open Go.RowKit

/-- A packet whose data lie elsewhere. -/
def Pkt.at (p : Pkt) (B : Option Addr) (d : Nat) : Pkt := ⟨p.src, p.dst, p.proto, p.ttl, p.id, p.off, p.more, B, d, p.data⟩

set_option maxHeartbeats 2000000 in
theorem equal_true (A B : Option Addr) (xs : List Nat) (n c d : Nat) (w : World) (hn : xs.length = n) (hA : NumsIn w .u8 A xs) (hB : NumsIn w .u8 B xs) (hm : n ≤ maxLen) :
    Calls Try.prog 29 #[.slice A n c, .slice B n d] w fun e w' => e = .returned (.bool true) ∧ Only [] w w' := by
  have HN := hide hn
  have HA := hide hA
  have HB := hide hB
  unfold maxLen at hm
  clear hn hA hB
  go_enter Try.func29, Try.ntmps29
  go_wp2
  go_loopw [13] (fun i wr => ∃ k : Nat, k ≤ n ∧ i = .int .i64 k ∧ Hid (Only [] w wr)) (fun i _ => n - (intOf i).toNat)
  case atStart => exact ⟨0, Nat.zero_le _, rfl, hide (Only.refl _ _)⟩
  case round =>
    obtain ⟨k, hk, rfl, HW⟩ := hrel
    rcases Nat.lt_or_ge k n with hlt | hge
    · obtain ⟨x, hx⟩ : ∃ x, xs[k]? = some x := ⟨_, List.getElem?_eq_getElem (by rw [HN.out]; exact hlt)⟩
      obtain ⟨b, o, rfl, hc⟩ := (HA.out.only HW.out) k x hx
      obtain ⟨b2, o2, rfl, hc2⟩ := (HB.out.only HW.out) k x hx
      clear hx
      go_wp2
      refine wp_region_text0 9 [] [] [] (fun _ => True) (by kernel_rfl) (by kernel_rfl) trivial ?_
      repeat (first | ((refine wpText_h rfl rfl ?_; apply Exists.intro; refine ⟨?_, ?_⟩; next => (go_simp; (try (go_bits; go_simp)); (first | done | with_reducible rfl | (rw [if_neg (by omega)]; (try (go_bits; go_simp)); (first | done | with_reducible rfl)) | (rw [if_pos (by omega)]; (try (go_bits; go_simp)); (first | done | with_reducible rfl))))); (try simp only [Act.put, List.setIfInBounds_toArray, List.set_cons_zero, List.set_cons_succ])) | ((refine wpText_p rfl rfl ?_; apply Exists.intro; refine ⟨?_, ?_⟩; next => (intro w'; go_simp; (try (go_bits; go_simp)); (first | done | with_reducible rfl | (rw [if_neg (by omega)]; (try (go_bits; go_simp)); (first | done | with_reducible rfl)) | (rw [if_pos (by omega)]; (try (go_bits; go_simp)); (first | done | with_reducible rfl))))); (try simp only [Act.put, List.setIfInBounds_toArray, List.set_cons_zero, List.set_cons_succ])) | ((refine wpText_y rfl rfl ?_; apply Exists.intro; refine ⟨?_, ?_⟩; next => (intro w' hS; (first | obtain ⟨_, rfl⟩ := hS | skip); go_simp; (try (go_bits; go_simp)); (first | done | with_reducible rfl | (rw [if_neg (by omega)]; (try (go_bits; go_simp)); (first | done | with_reducible rfl)) | (rw [if_pos (by omega)]; (try (go_bits; go_simp)); (first | done | with_reducible rfl))))); (try simp only [Act.put, List.setIfInBounds_toArray, List.set_cons_zero, List.set_cons_succ])) | (refine wpText_skip (by first | exact .inl rfl | exact .inr (.inl rfl) | exact .inr (.inr rfl)) rfl ?_; (try simp only [Act.put, List.setIfInBounds_toArray, List.set_cons_zero, List.set_cons_succ])))
      refine wpText_nil ?_
      go_wp2
      go_roundw
      case rel => exact ⟨k + 1, by omega, by go_num, hide HW.out.drew⟩
      case measure => simp [intOf]; omega
    · obtain rfl : k = n := by omega
      go_wp2
      go_ret
      exact ⟨rfl, HW.out⟩

abbrev refT : TypeId := 45
theorem build_ref (a b c d e f : Int) (g : Bool) (A : Option Addr) (l k : Nat) : ∀ w : World, (Instr.build 45 #[(0, .int .u32 a), (1, .int .u32 b), (2, I64 c), (3, I64 d), (4, I64 e), (5, I64 f), (6, .bool g), (7, .slice A l k)]).run Try.prog w =
    .ok (.agg #[.int .u32 a, .int .u32 b, I64 c, I64 d, I64 e, I64 f, .bool g, .slice A l k]) w := fun _ => by kernel_rfl

theorem results_cell1 {fn : Func} {a : Tmp} {t : TypeId} (h : fn.results = #[.cell a t]) (tmps : Array Value) (P : Program) (w : World) {ad : Addr} {v : Value} (ha : tmps.getD a undef = .pointer (some ad)) (hl : (loadVar t ad).run P w = .ok v w) :
    (results fn tmps).run P w = .ok v w := by
  have ha' : tmps[a]?.getD undef = .pointer (some ad) := by simpa using ha
  simp [results, h, asAddr, ha', hl]

theorem load_ref {w : World} {b : Nat} {p : Pkt} (h : Blk w b 45 p.cells) : (loadVar 45 ⟨b, 0, none⟩).run Try.prog w = .ok p.V w :=
  run_loadVar_cells w b 0 _ p.cells (d := _) (fun j v hv => by rw [Nat.zero_add]; exact h.cell hv) Try.underlying45 rfl (by unfold Pkt.cells; kernel_rfl)

theorem load_pkt {w : World} {b : Nat} {p : Pkt} (h : Blk w b 30 p.cells) : (loadVar 30 ⟨b, 0, none⟩).run Try.prog w = .ok p.V w :=
  run_loadVar_cells w b 0 _ p.cells (d := _) (fun j v hv => by rw [Nat.zero_add]; exact h.cell hv) Try.underlying30 rfl (by unfold Pkt.cells; kernel_rfl)

set_option maxRecDepth 100000 in
set_option maxHeartbeats 4000000 in
theorem ref_ok (p : Pkt) (w : World) : Calls Try.prog 23 #[p.V] w fun e w' => e = .returned p.V ∧ Only [] w w' := by
  have hbd := build_ref p.src p.dst p.proto p.ttl p.id p.off p.more p.A p.data.length p.cap
  show Calls Try.prog 23 #[.agg #[.int .u32 p.src, .int .u32 p.dst, I64 p.proto, I64 p.ttl, I64 p.id, I64 p.off, .bool p.more, .slice p.A p.data.length p.cap]] w _
  go_enter Try.func23, Try.ntmps23
  go_wp2
  refine bodyPost_ret (results_cell1 rfl _ _ _ rfl (load_ref (p := p) (Blk.newA (by simp)))) rfl ?_
  exact ⟨rfl, ((Only.refl _ _).alloc _).alloc _⟩

set_option maxRecDepth 100000 in
set_option maxHeartbeats 8000000 in
theorem same_true (p : Pkt) (B : Option Addr) (d : Nat) (w : World) (hl : p.data.length ≤ maxLen) (hA : NumsIn w .u8 p.A p.data) (hB : NumsIn w .u8 B p.data) :
    Calls Try.prog 25 #[p.V, (p.at B d).V] w fun e w' => e = .returned (.bool true) ∧ Only [] w w' := by
  have hO : Only [] w ((w.alloc (.cells #[.int .u32 p.src, .int .u32 p.dst, I64 p.proto, I64 p.ttl, I64 p.id, I64 p.off, .bool p.more, .slice p.A p.data.length p.cap] 30)).alloc (.cells #[.int .u32 p.src, .int .u32 p.dst, I64 p.proto, I64 p.ttl, I64 p.id, I64 p.off, .bool p.more, .slice B p.data.length d] 45)) := ((Only.refl [] w).alloc _).alloc _
  have hq : Blk ((w.alloc (.cells #[.int .u32 p.src, .int .u32 p.dst, I64 p.proto, I64 p.ttl, I64 p.id, I64 p.off, .bool p.more, .slice p.A p.data.length p.cap] 30)).alloc (.cells #[.int .u32 p.src, .int .u32 p.dst, I64 p.proto, I64 p.ttl, I64 p.id, I64 p.off, .bool p.more, .slice B p.data.length d] 45)) (w.heap.size + 1) 45 [.int .u32 p.src, .int .u32 p.dst, I64 p.proto, I64 p.ttl, I64 p.id, I64 p.off, .bool p.more, .slice B p.data.length d] := Blk.newA (by simp)
  have HA := hide hA
  have HB := hide hB
  have HO := hide (And.intro hO hq)
  have HL := hide hl
  show Calls Try.prog 25 #[.agg #[.int .u32 p.src, .int .u32 p.dst, I64 p.proto, I64 p.ttl, I64 p.id, I64 p.off, .bool p.more, .slice p.A p.data.length p.cap], .agg #[.int .u32 p.src, .int .u32 p.dst, I64 p.proto, I64 p.ttl, I64 p.id, I64 p.off, .bool p.more, .slice B p.data.length d]] w _
  clear hA hB hO hq hl
  go_enter Try.func25, Try.ntmps25
  go_wp2_with fail
  refine (ref_ok p _).mono ?_
  rintro e w1 ⟨rfl, ho⟩
  have hq1 := ho.blk HO.out.2 (by simp)
  have HO1 := hide (Only.trans HO.out.1 ho)
  have f0 := hq1.cell (i := 0) rfl
  have f1 := hq1.cell (i := 1) rfl
  have f2 := hq1.cell (i := 2) rfl
  have f3 := hq1.cell (i := 3) rfl
  have f4 := hq1.cell (i := 4) rfl
  have f5 := hq1.cell (i := 5) rfl
  have f6 := hq1.cell (i := 6) rfl
  have f7 := hq1.cell (i := 7) rfl
  have ltq := hq1.lt
  clear ho hq1 HO
  go_wp2_with fail
  refine (equal_true p.A B p.data p.data.length p.cap d _ rfl (HA.out.only (HO1.out.alloc _)) (HB.out.only (HO1.out.alloc _)) HL.out).mono ?_
  rintro e w2 ⟨rfl, ho2⟩
  have HO2 := hide (Only.trans (HO1.out.alloc _) ho2)
  clear ho2
  go_wp2
  go_ret
  exact ⟨rfl, HO2.out⟩

end Go.Proofs.Ytlnejlhdkmneeaa
