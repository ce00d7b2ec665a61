/- The reference's resolver: how it lies in memory; time, NewResolver, known, entry. -/
import Derived.Test.YtlnejlhdkmneeaaResD
namespace Go.Proofs.Ytlnejlhdkmneeaa
open Go.RowKit

abbrev rentT : TypeId := 177
abbrev rresT : TypeId := 167
abbrev rpktT : TypeId := 45

def rcl (z : Ent × Value) : List Value := [.int .u32 z.1.a, .int .u64 z.1.hw, I64 z.1.ex, z.2, I64 z.1.si]
theorem rcl_len (z : Ent × Value) : (rcl z).length = 5 := rfl
theorem rcl_flat_len (zs : List (Ent × Value)) : (zs.flatMap rcl).length = zs.length * 5 := by
  induction zs with
  | nil => rfl
  | cons z r ih => rw [List.flatMap_cons, List.length_append, rcl_len, ih]; simp; omega
theorem rcl_at (zs : List (Ent × Value)) (k : Nat) (z : Ent × Value) (hz : zs[k]? = some z) (j : Nat) (v : Value) (hv : (rcl z)[j]? = some v) : (zs.flatMap rcl)[k * 5 + j]? = some v := flat_at rcl_len zs k z j v hz hv
theorem rcl_set (zs : List (Ent × Value)) : ∀ (k : Nat) (z : Ent × Value), zs[k]? = some z → ∀ (z' : Ent × Value) (j : Nat) (u : Value), rcl z' = (rcl z).set j u → j < 5 → (zs.flatMap rcl).set (k * 5 + j) u = (zs.set k z').flatMap rcl := by
  induction zs with
  | nil => intro k z h; simp at h
  | cons y r ih =>
    intro k z h z' j u he hj
    cases k with
    | zero =>
      obtain rfl : y = z := by simpa using h
      rw [List.flatMap_cons, List.set_cons_zero, List.flatMap_cons, Nat.zero_mul, Nat.zero_add, List.set_append_left _ _ (by rw [rcl_len]; exact hj), he]
    | succ k =>
      rw [List.flatMap_cons, List.set_cons_succ, List.flatMap_cons, List.set_append_right _ _ (by rw [rcl_len]; omega), rcl_len, show (k + 1) * 5 + j - 5 = k * 5 + j by omega, ih k z (by simpa using h) z' j u he hj]
theorem rcl_splice (zs : List (Ent × Value)) : ∀ (k : Nat), k < zs.length → ∀ (z' : Ent × Value), (zs.flatMap rcl).take (k * 5) ++ rcl z' ++ (zs.flatMap rcl).drop (k * 5 + 5) = (zs.set k z').flatMap rcl := by
  induction zs with
  | nil => intro k h; simp at h
  | cons y r ih =>
    intro k h z'
    cases k with
    | zero =>
      rw [List.flatMap_cons, List.set_cons_zero, List.flatMap_cons, Nat.zero_mul, Nat.zero_add, List.take_zero, List.nil_append, List.drop_left' (rcl_len y)]
    | succ k =>
      rw [List.flatMap_cons, List.set_cons_succ, List.flatMap_cons, ← ih k (by simpa using h) z', show (k + 1) * 5 = 5 + k * 5 by omega, List.take_append, List.drop_append, rcl_len, List.take_of_length_le (by rw [rcl_len]; omega), List.drop_of_length_le (by rw [rcl_len]; omega), show 5 + k * 5 - 5 = k * 5 by omega, show 5 + k * 5 + 5 - 5 = k * 5 + 5 by omega]
      simp

structure RResAt (base y : Nat) (life clock : Int) (l : List Ent) (zs : List (Ent × Value)) (va : Value) (w : World) : Prop where
  me : Blk w y rresT [I64 life, va, I64 clock]
  row : offRow w base rentT 5 va l.length (zs.flatMap rcl)
  fst : zs.map Prod.fst = l
  wts : ∀ z ∈ zs, ∃ qs, offRow w base rpktT 8 z.2 z.1.wt.length (qs.flatMap Pkt.cells) ∧ PkLie w z.1.wt qs
  nodup : (addrs l).Nodup
  bq : base ≤ y

section
variable {base y : Nat} {life clock : Int} {l : List Ent} {zs : List (Ent × Value)} {va : Value} {w w' : World}
theorem RResAt.len (h : RResAt base y life clock l zs va w) : zs.length = l.length := by rw [← h.fst, List.length_map]
theorem offT {w : World} {base : Nat} {e : TypeId} {size n : Nat} {v : Value} {xs : List Value} (h : offRow w base e size v n xs) {k : Nat} (hk : v.ownBlock = some k) : ∃ cs, Blk w k e cs := by
  rcases h.2 with ⟨rfl, -⟩ | ⟨g, o, cap, cs, rfl, -, h3, -⟩
  · simp [Value.ownBlock] at hk
  · obtain rfl : g = k := by simpa [Value.ownBlock] using hk
    exact ⟨cs, h3⟩
theorem wts_sameOn {zs : List (Ent × Value)} (h : ∀ z ∈ zs, ∃ qs, offRow w base rpktT 8 z.2 z.1.wt.length (qs.flatMap Pkt.cells) ∧ PkLie w z.1.wt qs) (hh : ∀ k T cs, Blk w k T cs → T ∈ [rpktT, u8T] → w'.heap[k]? = w.heap[k]?) :
    ∀ z ∈ zs, ∃ qs, offRow w' base rpktT 8 z.2 z.1.wt.length (qs.flatMap Pkt.cells) ∧ PkLie w' z.1.wt qs := by
  intro z hz
  obtain ⟨qs, h1, h2⟩ := h z hz
  exact ⟨qs, off_same h1 (fun k hk => by obtain ⟨cs, h3⟩ := offT h1 hk; exact hh k _ _ h3 (by simp)), h2.sameOn fun k cs hk => hh k _ _ hk (by simp)⟩
theorem RResAt.sameOn (h : RResAt base y life clock l zs va w) (hh : ∀ k T cs, Blk w k T cs → T ∈ [rresT, rentT, rpktT, u8T] → w'.heap[k]? = w.heap[k]?) : RResAt base y life clock l zs va w' :=
  ⟨(hh y _ _ h.me (by simp)).trans h.me, off_same h.row (fun k hk => by obtain ⟨cs, h3⟩ := offT h.row hk; exact hh k _ _ h3 (by simp)), h.fst, wts_sameOn h.wts (fun k T cs hk hT => hh k T cs hk (by simp only [List.mem_cons, List.not_mem_nil, or_false] at hT ⊢; exact .inr (.inr hT))), h.nodup, h.bq⟩
theorem RResAt.only (h : RResAt base y life clock l zs va w) (ho : Only [] w w') : RResAt base y life clock l zs va w' :=
  h.sameOn fun k T cs hk _ => ho.block k hk.lt (by simp)
theorem RResAt.onlyM {b b0 : Nat} {Us : List TypeId} (h : RResAt base y life clock l zs va w) (ho : OnlyM b Us b0 w w') (hb : ∀ T cs, ¬ Blk w b T cs) (h1 : rresT ∉ Us) (h2 : rentT ∉ Us) (h3 : rpktT ∉ Us) (h4 : u8T ∉ Us) : RResAt base y life clock l zs va w' :=
  h.sameOn fun k T cs hk hT => (ho.blk hk (by
    simp only [List.mem_cons, List.not_mem_nil, or_false] at hT
    rcases hT with rfl | rfl | rfl | rfl <;> assumption) (by rintro rfl; exact hb _ _ hk)).trans hk.symm
theorem RResAt.far {S : List Nat} (h : RResAt base y life clock l zs va w) (ho : Only S w w') (hS : ∀ k ∈ S, ∀ T cs, Blk w k T cs → T ∉ [rresT, rentT, rpktT, u8T]) : RResAt base y life clock l zs va w' :=
  h.sameOn fun k T cs hk hT => ho.block k hk.lt fun hm => hS k hm T cs hk hT
theorem RResAt.clockTo (h : RResAt base y life clock l zs va w) (c : Int) : RResAt base y life c l zs va (w.setCell ⟨y, 2, none⟩ (I64 c)) := by
  have ho : Only [y] w (w.setCell ⟨y, 2, none⟩ (I64 c)) := (Only.refl _ _).set (p := ⟨y, 2, none⟩) (.inl (by simp)) _
  exact ⟨h.me.set 2 _, off_set h.row (off_ne_blk h.row h.me (by decide)) _, h.fst, wts_sameOn h.wts (fun k T cs hk hT => ho.block k hk.lt (by
    simp only [List.mem_cons, List.not_mem_nil, or_false] at hT ⊢
    rcases hT with rfl | rfl
    · exact hk.ne h.me (by decide)
    · exact hk.ne h.me (by decide))), h.nodup, h.bq⟩
abbrev rresTs : List TypeId := [rresT, rentT]
theorem RResAt.frame {S : List Nat} (h : RResAt base y life clock l zs va w) (ho : Only S w w') (hS : ∀ k ∈ S, k < w.heap.size → k = y ∨ va.ownBlock = some k) : OnlyT rresTs base w w' :=
  .of_only ho fun k hk hl => by
    rcases hS k hk hl with rfl | h1
    · exact ⟨h.bq, h.me.hasT (by simp)⟩
    · exact off_hasT h.row (by simp) k h1
theorem RResAt.get (h : RResAt base y life clock l zs va w) {k : Nat} {x : Ent} (hx : l[k]? = some x) : ∃ v, zs[k]? = some (x, v) := by
  have h1 := hx
  rw [← h.fst, List.getElem?_map] at h1
  cases hz : zs[k]? with
  | none => rw [hz] at h1; simp at h1
  | some z =>
    rw [hz] at h1
    obtain ⟨a, v⟩ := z
    simp at h1
    exact ⟨v, by rw [h1]⟩
end

set_option maxHeartbeats 1000000 in
theorem inRange_ok (t : Int) (w : World) : Calls Try.prog 79 #[I64 t] w fun e w' => e = .returned (.bool (tickB t)) ∧ w' = w := by
  by_cases h1 : 0 ≤ t
  · by_cases h2 : t ≤ 1099511627776
    · have hR : Hid (tickB t = true) := hide (by simp [tickB, h1, h2])
      go_enter Try.func79, Try.ntmps79
      go_wp2
      go_ret
      rw [hR.out]; exact ⟨rfl, rfl⟩
    · have hR : Hid (tickB t = false) := hide (by simp [tickB, h2])
      go_enter Try.func79, Try.ntmps79
      go_wp2
      go_ret
      rw [hR.out]; exact ⟨rfl, rfl⟩
  · have hR : Hid (tickB t = false) := hide (by simp [tickB, h1])
    go_enter Try.func79, Try.ntmps79
    go_wp2
    go_ret
    rw [hR.out]; exact ⟨rfl, rfl⟩

set_option maxHeartbeats 1000000 in
theorem rtime_ok (y : Nat) (life clock now : Int) (va : Value) (w : World) (h : Blk w y rresT [I64 life, va, I64 clock]) :
    Calls Try.prog 87 #[.pointer (some ⟨y, 0, none⟩), I64 now] w fun e w' => e = .returned (I64 (timeC now clock)) ∧ w' = w := by
  have c1 := h.cell (i := 2) rfl
  have lt := h.lt
  clear h
  by_cases h1 : tickB now = true
  · by_cases h2 : now < clock
    · have hR := hide (timeC_30 h1 h2)
      go_enter Try.func87, Try.ntmps87
      go_wp2_with fail
      refine (inRange_ok now _).mono ?_
      rintro e w1 ⟨rfl, rfl⟩
      go_wp2
      go_ret
      rw [hR.out]; exact ⟨rfl, rfl⟩
    · have hR := hide (timeC_0 h1 h2)
      go_enter Try.func87, Try.ntmps87
      go_wp2_with fail
      refine (inRange_ok now _).mono ?_
      rintro e w1 ⟨rfl, rfl⟩
      go_wp2
      go_ret
      rw [hR.out]; exact ⟨rfl, rfl⟩
  · have h1' : tickB now = false := by simpa using h1
    have hR := hide (timeC_34 (clock := clock) h1')
    clear h1
    go_enter Try.func87, Try.ntmps87
    go_wp2_with fail
    refine (inRange_ok now _).mono ?_
    rintro e w1 ⟨rfl, rfl⟩
    go_wp2
    go_ret
    rw [hR.out]; exact ⟨rfl, rfl⟩

def RNewResS (life : Int) (w : World) (e : Ending) (w' : World) : Prop :=
  if life < 1 ∨ 1099511627776 < life then e = .returned (.tuple #[.pointer none, I64 34]) ∧ Only [] w w'
  else ∃ y, e = .returned (.tuple #[.pointer (some ⟨y, 0, none⟩), I64 0]) ∧ RResAt w.heap.size y life 0 [] [] (.slice none 0 0) w' ∧ Only [] w w'
theorem build_rres (life : Int) : ∀ w : World, (Instr.build 167 #[(0, I64 life)]).run Try.prog w = .ok (.agg #[I64 life, .slice none 0 0, I64 0]) w := fun _ => by kernel_rfl
set_option maxHeartbeats 1000000 in
theorem rnewRes_ok (life : Int) (w : World) : Calls Try.prog 41 #[I64 life] w fun e w' => RNewResS life w e w' := by
  by_cases h1 : life < 1
  · have hR : Hid (life < 1 ∨ 1099511627776 < life) := hide (.inl h1)
    go_enter Try.func41, Try.ntmps41
    go_wp2
    go_ret2
    unfold RNewResS; rw [if_pos hR.out]; exact ⟨rfl, Only.refl _ _⟩
  · by_cases h2 : 1099511627776 < life
    · have hR : Hid (life < 1 ∨ 1099511627776 < life) := hide (.inr h2)
      go_enter Try.func41, Try.ntmps41
      go_wp2
      go_ret2
      unfold RNewResS; rw [if_pos hR.out]; exact ⟨rfl, Only.refl _ _⟩
    · have hR : Hid (¬ (life < 1 ∨ 1099511627776 < life)) := hide (by omega)
      have hb := build_rres life
      go_enter Try.func41, Try.ntmps41
      go_wp2
      go_ret2
      unfold RNewResS; rw [if_neg hR.out]
      exact ⟨_, rfl, ⟨Blk.newA rfl, off_nil _ _ _ _, rfl, by simp, by simp [addrs], Nat.le_refl _⟩, (Only.refl [] w).alloc _⟩

end Go.Proofs.Ytlnejlhdkmneeaa
