/- list.take at armed: what is wanted is removed and handed back. -/
import Derived.Test.YtacnmlifmjflfaaTakeArmed
namespace Go.Proofs.Ytacnmlifmjflfaa
open Go.RowKit

set_option maxHeartbeats 2000000 in
theorem indexnilarmed_ok (fv : Value) (w : World) : Calls Try.prog 76 #[.slice none 0 0, fv] w fun e w' => e = .returned (I64 (-1)) ∧ w' = w := by
  go_enter Try.func76, Try.ntmps76
  go_wp2
  go_loopw [8] (fun i wr => i = .int .i64 0 ∧ wr = w) (fun _ _ => 0)
  case atStart => exact ⟨rfl, rfl⟩
  case round =>
    obtain ⟨rfl, rfl⟩ := hrel
    go_wp2
    go_ret
    exact ⟨rfl, rfl⟩

set_option maxHeartbeats 2000000 in
theorem delnilarmed_ok (fv : Value) (w : World) : Calls Try.prog 58 #[.slice none 0 0, fv] w fun e w' => e = .returned (.slice none 0 0) ∧ w' = w := by
  go_enter Try.func58, Try.ntmps58
  go_wp2_with fail
  refine (indexnilarmed_ok _ _).mono ?_
  rintro e w1 ⟨rfl, rfl⟩
  go_wp2
  go_ret
  exact ⟨rfl, rfl⟩

/-- What take leaves: what was taken (in out), and the list in its cell. -/
def Tookarmed {σ : Type} (base q off b0 : Nat) (cells : List Value) (Us : List TypeId) (R : σ → World → Prop) (r : List Tyarmed × (σ × List Tyarmed)) (w : World) (e : Ending) (w' : World) : Prop :=
  ∃ vo v', e = .returned vo ∧ R r.2.1 w' ∧ Blk w' q 82 (cells.set off v') ∧ w'.ownsRow base 86 9 v' r.1.length (r.1.flatMap encarmed) ∧
    w'.ownsRow b0 86 9 vo r.2.2.length (r.2.2.flatMap encarmed) ∧ OnlyT (Us ++ [86, 75, 82]) base w w'

/-- What is known behind DeleteFunc over take's closure. -/
def Afterarmed {σ : Type} (base ob b0 : Nat) (Us : List TypeId) (R : σ → World → Prop) (r : List Tyarmed × (σ × List Tyarmed)) (w : World) (e : Ending) (w' : World) : Prop :=
  ∃ v3 vo, e = .returned v3 ∧ R r.2.1 w' ∧ OnlyT (Us ++ [86, 75]) base w w' ∧ Blk w' ob 75 [vo] ∧ w'.ownsRow base 86 9 v3 r.1.length (r.1.flatMap encarmed) ∧
    w'.ownsRow b0 86 9 vo r.2.2.length (r.2.2.flatMap encarmed)

theorem deltakearmed_ok {σ : Type} (base n : Nat) (F : FuncId) (caps : Array Value) (Us : List TypeId) (X : Tyarmed → Prop) (R : σ → World → Prop) (lim : σ → Nat) (p : σ → Tyarmed → Bool) (f : σ → Tyarmed → σ) (xs : List Tyarmed) (s : σ) (v : Value) (w : World)
    (hP : WantOk base F caps encarmed Us [86, 75] X R lim p f) (hX : ∀ x ∈ xs, X x) (hU : 86 ∉ Us ∧ 75 ∉ Us ∧ 88 ∉ Us ∧ 82 ∉ Us) (hR : R s w) (hbw : base ≤ w.heap.size)
    (own : w.ownsRow base 86 9 v n (xs.flatMap encarmed)) (hn : xs.length = n) (hm : n ≤ 1000000) (hL : n ≤ lim s) (hone : ∀ (x : Tyarmed), ∀ v ∈ encarmed x, v.oneCell' = true) :
    Calls Try.prog 58 #[v, .func (.func 59) #[] #[.pointer (some ⟨w.heap.size, 0, none⟩), .pointer (some ⟨w.heap.size + 1, 0, none⟩)]]
      ((w.alloc (Obj.cells #[Value.func (Fn.func F) #[] caps] 88)).alloc (Obj.cells #[Value.slice none 0 0] 75))
      fun e w' => Afterarmed base (w.heap.size + 1) w.heap.size Us R (takeS p f s xs) w e w' := by
  have hw1 : Only [] w (w.alloc (Obj.cells #[Value.func (Fn.func F) #[] caps] 88)) := (Only.refl [] w).alloc _
  have hw2 : Only [] w ((w.alloc (Obj.cells #[Value.func (Fn.func F) #[] caps] 88)).alloc (Obj.cells #[Value.slice none 0 0] 75)) := hw1.alloc _
  have hb1 : Blk ((w.alloc (Obj.cells #[Value.func (Fn.func F) #[] caps] 88)).alloc (Obj.cells #[Value.slice none 0 0] 75)) w.heap.size 88 [Value.func (Fn.func F) #[] caps] := (Blk.newA (c := #[Value.func (Fn.func F) #[] caps]) rfl).alloc _
  have hb2 : Blk ((w.alloc (Obj.cells #[Value.func (Fn.func F) #[] caps] 88)).alloc (Obj.cells #[Value.slice none 0 0] 75)) (w.heap.size + 1) 75 [Value.slice none 0 0] := Blk.newA (c := #[Value.slice none 0 0]) (by show w.heap.size + 1 = (w.heap.push _).size; rw [Array.size_push])
  have hsz : ((w.alloc (Obj.cells #[Value.func (Fn.func F) #[] caps] 88)).alloc (Obj.cells #[Value.slice none 0 0] 75)).heap.size = w.heap.size + 2 := by
    show ((w.heap.push _).push _).size = _
    rw [Array.size_push, Array.size_push]
  revert hw2 hb1 hb2 hsz
  generalize (w.alloc (Obj.cells #[Value.func (Fn.func F) #[] caps] 88)).alloc (Obj.cells #[Value.slice none 0 0] 75) = w2
  intro hw2 hb1 hb2 hsz
  rcases own.2 with ⟨rfl, h0⟩ | ⟨g, cap, cur, rfl, hg, hh, hnc, hcm, hcs, hct⟩
  · subst h0
    obtain rfl : xs = [] := List.length_eq_zero_iff.1 hn
    refine (delnilarmed_ok _ _).mono ?_
    rintro e w' ⟨rfl, rfl⟩
    exact ⟨_, _, rfl, hP.stable _ _ _ hR (.of_nil hw2), .of_nil hw2, hb2, World.ownsRow_nil _ _ _ _, World.ownsRow_nil _ _ _ _⟩
  · obtain ⟨-, -, -, rest, hB, hrl⟩ := blk_of_row own
    have hgl := hB.lt
    have hb' := hw2.blk hB (by simp)
    have hP' : WantOk base F caps encarmed Us [86, 75] X (fun s w' => R s w' ∧ OnlyT (Us ++ [86, 75]) base w w') lim p f := hP.framed w (fun t ht => List.mem_append_left _ ht) (fun t ht => List.mem_append_right _ ht)
    refine (delarmed_ok g n cap _ _ X (Takesarmed F caps _ g w.heap.size w.heap.size (w.heap.size + 1) n) (fun q => min (lim q.1) (n - q.2.length)) _ _ xs rest (s, []) w2
      (takePredarmed hP' ⟨hU.1, hU.2.1, hU.2.2.1⟩ hm hg (by omega) hone) hX (by simp; omega) ⟨⟨hP.stable _ _ _ hR (.of_nil hw2), .of_nil hw2⟩, hb1, by omega, hgl, by simp, _, hb2, World.ownsRow_nil _ _ _ _⟩ hb' hn hm hnc hone).mono ?_
    rintro e w' ⟨rfl, rest', ⟨⟨k1, k2⟩, k3, k4, k5, k6, vo, k7, k8⟩, hB', hl', hle, -⟩
    exact ⟨_, vo, rfl, k1, k2, k7, row_of_kept hg hB' (flat_len (sz := 9) (enc := encarmed) (fun _ => rfl) _) (by omega) hcm hl' hrl, k8⟩

set_option maxRecDepth 100000 in
set_option maxHeartbeats 4000000 in
theorem takearmed_ok {σ : Type} (base q off n : Nat) (F : FuncId) (caps : Array Value) (Us : List TypeId) (X : Tyarmed → Prop) (R : σ → World → Prop) (lim : σ → Nat) (p : σ → Tyarmed → Bool) (f : σ → Tyarmed → σ) (xs : List Tyarmed) (s : σ) (v : Value) (cells : List Value) (w : World)
    (hP : WantOk base F caps encarmed Us [86, 75] X R lim p f) (hX : ∀ x ∈ xs, X x) (hU : 86 ∉ Us ∧ 75 ∉ Us ∧ 88 ∉ Us ∧ 82 ∉ Us) (hR : R s w) (hbw : base ≤ w.heap.size) (hbq : base ≤ q)
    (hq : Blk w q 82 cells) (hv : cells[off]? = some v) (own : w.ownsRow base 86 9 v n (xs.flatMap encarmed)) (hn : xs.length = n) (hm : n ≤ 1000000) (hL : n ≤ lim s)
    (hset : ∀ s w u, R s w → R s (w.setCell ⟨q, off, none⟩ u)) (hone : ∀ (x : Tyarmed), ∀ v ∈ encarmed x, v.oneCell' = true) :
    Calls Try.prog 36 #[.pointer (some ⟨q, off, none⟩), .func (.func F) #[] caps] w
      fun e w' => Tookarmed base q off w.heap.size cells Us R (takeS p f s xs) w e w' := by
  have HU := hide hU
  have HSET := hide hset
  have HD := hide (deltakearmed_ok base n F caps Us X R lim p f xs s v w hP hX hU hR hbw own hn hm hL hone)
  have eq0 := hq.cell hv
  have HQ := hide hq
  have HV := hide hv
  have hql := hq.lt
  have hqf := hq.frozen off
  obtain ⟨A, c, rfl⟩ := own_shape own
  clear hP hU hR hq own hset hone hn hv
  go_enter Try.func36, Try.ntmps36
  go_wp2_with fail
  refine HD.out.mono ?_
  rintro e w3 ⟨v3, vo, rfl, k1, k2, k3, k4, k5⟩
  have hq3 : Blk w3 q 82 cells := k2.blk HQ.out (by simp; exact HU.out.2.2.2)
  have hf3 := hq3.frozen off
  have hc3 := hq3.cell HV.out
  have hqlt3 := hq3.lt
  have hne : w.heap.size + 1 ≠ q := by omega
  have e3 : (w3.setCell ⟨q, off, none⟩ v3).cell? ⟨w.heap.size + 1, 0, none⟩ = some vo := (k3.far (p := ⟨q, off, none⟩) hne v3).cell (i := 0) rfl
  have HK := hide (show _ ∧ _ ∧ _ ∧ _ ∧ _ from ⟨k1, k2, k3, k4, k5⟩)
  have HQ3 := hide hq3
  obtain ⟨A3, c3, rfl⟩ := own_shape k4
  obtain ⟨Ao, co, rfl⟩ := own_shape k5
  clear k1 k2 k3 k4 k5 hq3 eq0 HD
  go_wp2_with fail
  go_ret
  refine ⟨_, _, rfl, HSET.out _ _ _ HK.out.1, HQ3.out.set off _, own_setCell HK.out.2.2.2.1 (own_ne_blk HK.out.2.2.2.1 HQ3.out (by decide)) _, own_setCell HK.out.2.2.2.2 (own_ne_blk HK.out.2.2.2.2 HQ3.out (by decide)) _, ?_⟩
  refine (HK.out.2.1.mono (fun t ht => ?_)).trans (.of_only (S := [q]) ((Only.refl [q] w3).set (.inl (by simp)) _) (by
    intro k hk _
    obtain rfl : k = q := by simpa using hk
    exact ⟨hbq, HQ3.out.hasT (by simp)⟩))
  rcases List.mem_append.1 ht with ht | ht
  · exact List.mem_append_left _ ht
  · refine List.mem_append_right _ ?_
    simp at ht ⊢
    rcases ht with rfl | rfl <;> simp

end Go.Proofs.Ytacnmlifmjflfaa
