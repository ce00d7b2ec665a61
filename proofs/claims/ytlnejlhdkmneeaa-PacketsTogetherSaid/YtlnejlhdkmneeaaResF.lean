/- The reference's resolver: known, entry. -/
import Derived.Test.YtlnejlhdkmneeaaResE
namespace Go.Proofs.Ytlnejlhdkmneeaa
open Go.RowKit

theorem RResAt.cells {base y : Nat} {life clock : Int} {l : List Ent} {zs : List (Ent × Value)} {va : Value} {w : World} (h : RResAt base y life clock l zs va w) {A : Option Addr} {n c : Nat} (hva : va = .slice A n c) {k : Nat} {z : Ent × Value} (hz : zs[k]? = some z) :
    ∃ g o, A = some ⟨g, o, none⟩ ∧ ∀ j u, (rcl z)[j]? = some u → w.cell? ⟨g, o + k * 5 + j, none⟩ = some u := by
  have hk : k < l.length := by rw [← h.len]; exact (List.getElem?_eq_some_iff.1 hz).1
  obtain ⟨g, o, cap, cs, hv, -, -, -⟩ := off_blk h.row (by omega)
  rw [hva] at hv
  injection hv with h1 h2 h3
  refine ⟨g, o, h1, fun j u hu => ?_⟩
  have := off_cells h.row (g := g) (o := o) (cap := c) (by rw [hva, h1, h2]) (k * 5 + j) u (rcl_at zs k z hz j u hu)
  rwa [← Nat.add_assoc] at this

theorem known_at {l : List Ent} {a now : Int} (hn : (addrs l).Nodup) {x : Ent} (hx : x ∈ l) (ha : x.a = a) (he : now < x.ex) : knownL l a now = x.hw := by
  unfold knownL
  rw [← ha, getE_of_mem hn hx]
  simp only; rw [if_pos he]
theorem known_not {l : List Ent} {a now : Int} (h : ∀ x ∈ l, ¬ (x.a = a ∧ now < x.ex)) : knownL l a now = 0 := by
  unfold knownL
  cases hg : getE l a with
  | none => rfl
  | some x =>
    obtain ⟨h1, h2⟩ := getE_some hg
    simp only; rw [if_neg fun h3 => h x h1 ⟨h2, h3⟩]

set_option maxRecDepth 100000 in
set_option maxHeartbeats 4000000 in
theorem rknown_ok (base y : Nat) (life clock a now : Int) (l : List Ent) (zs : List (Ent × Value)) (va : Value) (n : Nat) (w : World) (hn : l.length = n) (hm : n ≤ 1000000) (h : RResAt base y life clock l zs va w) :
    Calls Try.prog 85 #[.pointer (some ⟨y, 0, none⟩), .int .u32 a, I64 now] w fun e w' => e = .returned (.int .u64 (knownL l a now)) ∧ w' = w := by
  have hr := h.row
  rw [hn] at hr
  obtain ⟨A, c, rfl⟩ := off_shape hr
  have b0 := h.me.cell (i := 1) rfl
  have ltb := h.me.lt
  have HN := hide hn
  have H := hide h
  clear hn hr h
  go_enter Try.func85, Try.ntmps85
  go_wp2
  go_loopw [7] (fun i wr => ∃ k : Nat, k ≤ n ∧ i = .int .i64 k ∧ wr = w ∧ Hid (∀ j x, j < k → l[j]? = some x → ¬ (x.a = a ∧ now < x.ex))) (fun i _ => n - (Go.RowKit.intOf i).toNat)
  case atStart => exact ⟨0, Nat.zero_le _, rfl, rfl, hide (by intro j x hj; omega)⟩
  case round =>
    obtain ⟨k, hk, rfl, rfl, HJ⟩ := hrel
    rcases Nat.lt_or_ge k n with hlt | hge
    · obtain ⟨x, hx⟩ : ∃ x, l[k]? = some x := ⟨_, List.getElem?_eq_getElem (by rw [HN.out]; exact hlt)⟩
      obtain ⟨v, hz⟩ := H.out.get hx
      obtain ⟨g, o, rfl, hc⟩ := H.out.cells rfl hz
      have y0 := hc 0 _ rfl
      rw [Nat.add_zero] at y0
      have y1 := hc 1 _ rfl
      have y2 := hc 2 _ rfl
      have HX := hide hx
      clear hx hz hc
      by_cases h1 : x.a = a
      · by_cases h2 : now < x.ex
        · have hR : Hid (knownL l a now = x.hw) := hide (known_at H.out.nodup (List.mem_of_getElem? HX.out) h1 h2)
          subst h1
          go_wp2
          go_ret
          rw [hR.out]; exact ⟨rfl, rfl⟩
        · have hR : Hid (∀ j x, j < k + 1 → l[j]? = some x → ¬ (x.a = a ∧ now < x.ex)) := hide (fun j z hj hz => by
            rcases Nat.lt_or_ge j k with h3 | h3
            · exact HJ.out j z h3 hz
            · obtain rfl : j = k := by omega
              rw [HX.out] at hz; injection hz with hz; subst hz; exact fun hh => h2 hh.2)
          subst h1
          go_wp2
          go_roundw
          case rel => exact ⟨k + 1, by omega, by go_num, trivial, hR⟩
          case measure => simp [Go.RowKit.intOf]; omega
      · have hR : Hid (∀ j x, j < k + 1 → l[j]? = some x → ¬ (x.a = a ∧ now < x.ex)) := hide (fun j z hj hz => by
          rcases Nat.lt_or_ge j k with h3 | h3
          · exact HJ.out j z h3 hz
          · obtain rfl : j = k := by omega
            rw [HX.out] at hz; injection hz with hz; subst hz; exact fun hh => h1 hh.1)
        have h1' : (x.a == a) = false := by simpa using h1
        clear h1
        go_wp2
        go_roundw
        case rel => exact ⟨k + 1, by omega, by go_num, trivial, hR⟩
        case measure => simp [Go.RowKit.intOf]; omega
    · obtain rfl : k = n := by omega
      have hR : Hid (knownL l a now = 0) := hide (known_not fun x hx => by
        obtain ⟨j, hj⟩ := List.getElem?_of_mem hx
        exact HJ.out j x (by rw [← HN.out]; exact (List.getElem?_eq_some_iff.1 hj).1) hj)
      go_wp2
      go_ret
      rw [hR.out]; exact ⟨rfl, rfl⟩

/-- What entry answers: the address's place. -/
def REntryS (base y : Nat) (life clock a : Int) (l : List Ent) (va : Value) (w : World) (e : Ending) (w' : World) : Prop :=
  ∃ (k : Nat) (zs : List (Ent × Value)) (va' : Value), e = .returned (I64 k) ∧ RResAt base y life clock (entL l a) zs va' w' ∧ (entL l a)[k]? = some (inE l a) ∧ Only (y :: va.ownBlock.toList) w w' ∧ (va'.ownBlock = va.ownBlock ∨ ∀ k, va'.ownBlock = some k → w.heap.size ≤ k)

theorem rentry_info : (Try.prog.info? 177).map (fun i => (i.zero, i.size, i.bytes)) = some (some (.agg #[.int .u32 0, .int .u64 0, I64 0, .slice none 0 0, I64 0]), 5, 56) := by kernel_rfl
theorem build_rent (a : Int) : ∀ w : World, (Instr.build 177 #[(0, .int .u32 a)]).run Try.prog w = .ok (.agg #[.int .u32 a, .int .u64 0, I64 0, .slice none 0 0, I64 0]) w := fun _ => by kernel_rfl

set_option maxRecDepth 100000 in
set_option maxHeartbeats 4000000 in
theorem rentry_lt (base y : Nat) (life clock a : Int) (l : List Ent) (zs : List (Ent × Value)) (va : Value) (n : Nat) (w : World) (hn : l.length = n) (hm : n ≤ 1000000) (h : RResAt base y life clock l zs va w) (hbw : base ≤ w.heap.size)
    (hl : (getE l a).isSome = true ∨ n < 200) :
    Calls Try.prog 86 #[.pointer (some ⟨y, 0, none⟩), .int .u32 a] w fun e w' => REntryS base y life clock a l va w e w' := by
  have hr := h.row
  rw [hn] at hr
  obtain ⟨A, c, rfl⟩ := off_shape hr
  have b0 := h.me.cell (i := 1) rfl
  have ltb := h.me.lt
  have HN := hide hn
  have H := hide h
  have HRW := hide hr
  have HL := hide hl
  have HBW := hide hbw
  clear hn hr h hl hbw
  go_enter Try.func86, Try.ntmps86
  go_wp2
  go_loopw [5] (fun i wr => ∃ k : Nat, k ≤ n ∧ i = .int .i64 k ∧ wr = w ∧ Hid (∀ j x, j < k → l[j]? = some x → x.a ≠ a)) (fun i _ => n - (Go.RowKit.intOf i).toNat)
  case atStart => exact ⟨0, Nat.zero_le _, rfl, rfl, hide (by intro j x hj; omega)⟩
  case round =>
    obtain ⟨k, hk, rfl, rfl, HJ⟩ := hrel
    rcases Nat.lt_or_ge k n with hlt | hge
    · obtain ⟨x, hx⟩ : ∃ x, l[k]? = some x := ⟨_, List.getElem?_eq_getElem (by rw [HN.out]; exact hlt)⟩
      obtain ⟨v, hz⟩ := H.out.get hx
      obtain ⟨g, o, rfl, hc⟩ := H.out.cells rfl hz
      have y0 := hc 0 _ rfl
      rw [Nat.add_zero] at y0
      have HX := hide hx
      clear hx hz hc
      by_cases h1 : x.a = a
      · have hg : getE l a = some x := by rw [← h1]; exact getE_of_mem H.out.nodup (List.mem_of_getElem? HX.out)
        have hE : Hid (entL l a = l ∧ inE l a = x) := hide ⟨entL_some hg, by unfold inE; rw [hg]; rfl⟩
        subst h1
        clear hg
        go_wp2
        go_ret
        exact ⟨k, zs, _, rfl, by rw [hE.out.1]; exact H.out, by rw [hE.out.1, hE.out.2]; exact HX.out, Only.refl _ _, .inl rfl⟩
      · have hR : Hid (∀ j x, j < k + 1 → l[j]? = some x → x.a ≠ a) := hide (fun j z hj hz => by
          rcases Nat.lt_or_ge j k with h3 | h3
          · exact HJ.out j z h3 hz
          · obtain rfl : j = k := by omega
            rw [HX.out] at hz; injection hz with hz; subst hz; exact h1)
        have h1' : (x.a == a) = false := by simpa using h1
        clear h1
        go_wp2
        go_roundw
        case rel => exact ⟨k + 1, by omega, by go_num, trivial, hR⟩
        case measure => simp [Go.RowKit.intOf]; omega
    · obtain rfl : k = n := by omega
      have hnone : getE l a = none := by
        cases hg : getE l a with
        | none => rfl
        | some x =>
          obtain ⟨h1, h2⟩ := getE_some hg
          obtain ⟨j, hj⟩ := List.getElem?_of_mem h1
          exact absurd h2 (HJ.out j x (by rw [← HN.out]; exact (List.getElem?_eq_some_iff.1 hj).1) hj)
      have h200 : k < 200 := by
        rcases HL.out with h1 | h1
        · rw [hnone] at h1; cases h1
        · exact h1
      have HG := hide hnone
      have hE : Hid (entL l a = l ++ [newE a] ∧ inE l a = newE a) := hide ⟨entL_none hnone (by rw [HN.out]; exact h200), by unfold inE; rw [hnone]; rfl⟩
      have hbd := build_rent a
      have fb := H.out.me.frozen 1
      obtain ⟨i0, hi0, hz0, hs0, hb0⟩ := info_parts rentry_info
      clear hnone
      go_wp2_with (at_builtin; refine wpList_append_off _ rfl (.tmp 102) (.tmp 105) 165 rfl rentT i0 (.agg #[.int .u32 0, .int .u64 0, I64 0, .slice none 0 0, I64 0]) 5 56 Try.underlying165 hi0 hz0 hs0 hb0 rfl (by decide) base (.slice A k c) k (zs.flatMap rcl) rfl (off_keep HRW.out ((Only.refl [] wr).alloc _)) (Nat.le_trans HBW.out ((Only.refl [] wr).alloc _).size) ⟨wr.heap.size, 0, none⟩ 1 1 [.int .u32 a, .int .u64 0, I64 0, .slice none 0 0, I64 0] rfl rfl ?_ (by simp [Value.oneCell']) (by simp only [maxLen]; omega) (by omega) ?_)
      · intro j u hu
        rw [show (⟨wr.heap.size, 0, none⟩ : Addr).add j = ⟨wr.heap.size, j, none⟩ by unfold Addr.add; split <;> simp_all]
        exact ((Blk.newA (c := #[.int .u32 a, .int .u64 0, I64 0, .slice none 0 0, I64 0]) rfl)).cell hu
      intro v3 w3 hr3 ho3 hv3
      have hny := off_ne_blk HRW.out H.out.me (by decide)
      have hme3 := ho3.blk (H.out.me.alloc (.cells #[.int .u32 a, .int .u64 0, I64 0, .slice none 0 0, I64 0] 177)) (fun hh => hny (mem_own.1 hh))
      have b3 := hme3.cell (i := 1) rfl
      have f3 := hme3.frozen 1
      have l3 := hme3.lt
      have hS3 : Only ((Value.slice A k c).ownBlock.toList) wr w3 := (((Only.refl [] wr).alloc (.cells #[.int .u32 a, .int .u64 0, I64 0, .slice none 0 0, I64 0] 177)).mono (by simp)).trans ho3
      have hv3' : v3.ownBlock = (Value.slice A k c).ownBlock ∨ ∀ j, v3.ownBlock = some j → wr.heap.size ≤ j := hv3.imp id fun hh j hj => by
        have h1 : wr.heap.size + 1 ≤ j := hh j hj
        omega
      have hn3 := off_ne_blk hr3 hme3 (by decide)
      obtain ⟨A3, c3, rfl⟩ := off_shape hr3
      have H3 := hide (show _ ∧ _ ∧ _ ∧ _ ∧ _ from ⟨hr3, hme3, hS3, hv3', hn3⟩)
      clear hr3 hme3 hS3 hv3' hn3 ho3 hv3 hny b0 fb ltb
      go_wp2
      go_ret
      have hset : Only (y :: (Value.slice A k c).ownBlock.toList) wr (w3.setCell ⟨y, 1, none⟩ (.slice A3 (k + 1) c3)) := (H3.out.2.2.1.mono (fun i hi _ => List.mem_cons_of_mem _ hi)).set (p := ⟨y, 1, none⟩) (.inl (by simp)) _
      refine ⟨k, zs ++ [(newE a, .slice none 0 0)], _, rfl, ?_, ?_, hset, H3.out.2.2.2.1⟩
      · rw [hE.out.1]
        refine ⟨H3.out.2.1.set 1 _, ?_, by rw [List.map_append, H.out.fst]; rfl, ?_, ?_, H.out.bq⟩
        · have h1 := off_set H3.out.1 (p := ⟨y, 1, none⟩) H3.out.2.2.2.2 (.slice A3 (k + 1) c3)
          have h2 : (zs ++ [(newE a, Value.slice none 0 0)]).flatMap rcl = zs.flatMap rcl ++ [.int .u32 a, .int .u64 0, I64 0, .slice none 0 0, I64 0] := by rw [List.flatMap_append]; rfl
          rw [h2, List.length_append, HN.out]
          exact h1
        · intro z hz
          rcases List.mem_append.1 hz with hz | hz
          · refine wts_sameOn H.out.wts (fun i T cs hi hT => hset.block i hi.lt ?_) z hz
            intro hm
            simp only [List.mem_cons, List.not_mem_nil, or_false] at hT
            rcases List.mem_cons.1 hm with rfl | hm
            · rcases hT with rfl | rfl
              · exact absurd rfl (hi.ne H.out.me (by decide))
              · exact absurd rfl (hi.ne H.out.me (by decide))
            · obtain ⟨cs', h3⟩ := offT HRW.out (mem_own.1 hm)
              rcases hT with rfl | rfl
              · exact absurd rfl (hi.ne h3 (by decide))
              · exact absurd rfl (hi.ne h3 (by decide))
          · obtain rfl : z = (newE a, .slice none 0 0) := by simpa using hz
            exact ⟨[], off_nil _ _ _ _, PkLie.nil _⟩
        · have := entL_nodup H.out.nodup a
          rw [hE.out.1] at this
          exact this
      · rw [hE.out.1, hE.out.2, List.getElem?_append_right (by rw [HN.out]; exact Nat.le_refl _), HN.out]
        simp

end Go.Proofs.Ytlnejlhdkmneeaa
