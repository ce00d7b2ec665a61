/- Update's first closure: what fires. -/
import Derived.Test.YtacnmlifmjflfaaWalkC
namespace Go.Proofs.Ytacnmlifmjflfaa
open Go.RowKit

structure Frd where
  id : Int
  conds : Int
  kind : Int
  conn : Int
  prio : Int
  code : Int
  val : Int
def encfired (x : Frd) : List Value := [I64 x.id, I64 x.conds, I64 x.kind, I64 x.conn, I64 x.prio, I64 x.code, I64 x.val]
abbrev zsfired : List Value := [I64 0, I64 0, I64 0, I64 0, I64 0, I64 0, I64 0]

/-- An armed notification is met by what came to an object. -/
def hit (o came : Int) (x : Armd) : Bool := decide (x.obj = o) && decide (band x.cond came ≠ 0)
def fireOf (came : Int) (x : Armd) : Frd := ⟨x.id, band x.cond came, x.kind, x.conn, x.prio, x.code, x.val⟩
def goes (o came : Int) (x : Armd) : Bool := hit o came x && !x.keep
def firedS (o came : Int) (s : List Frd) (x : Armd) : List Frd := if hit o came x = true then s ++ [fireOf came x] else s

/-- What the closure knows: the object, what came, and what fired so far. -/
def FiresS (base q ob cm fb N : Nat) (o came : Int) (s : List Frd) (w : World) : Prop :=
  Blk w ob 3 [I64 o] ∧ Blk w cm 3 [I64 came] ∧ base ≤ w.heap.size ∧ s.length ≤ N ∧ base ≤ fb ∧ (∃ cells, Blk w q 82 cells) ∧ ∃ v, Blk w fb 33 [v] ∧ w.ownsRow base 73 7 v s.length (s.flatMap encfired)

theorem fired_info : (Try.prog.info? 73).map (fun i => (i.zero, i.size, i.bytes)) = some (some (.agg zsfired.toArray), 7, 56) := by kernel_rfl
theorem build_fired (id c : Int) (x : Armd) : ∀ w : World, (Instr.build 73 #[(0, I64 id), (1, I64 c), (2, .agg #[I64 x.kind, I64 x.conn, I64 x.prio, I64 x.code, I64 x.val])]).run Try.prog w = .ok (.agg #[I64 id, I64 c, I64 x.kind, I64 x.conn, I64 x.prio, I64 x.code, I64 x.val]) w := fun _ => by kernel_rfl

theorem FiresS.stable {base q ob cm fb N : Nat} {o came : Int} {s : List Frd} {Vs : List TypeId} {w w' : World} (h : FiresS base q ob cm fb N o came s w) (ho : OnlyT Vs base w w') (h1 : 3 ∉ Vs) (h2 : 33 ∉ Vs) (h3 : 73 ∉ Vs) (h4 : 82 ∉ Vs) : FiresS base q ob cm fb N o came s w' := by
  obtain ⟨a, b, c, d, e, ⟨cells, t⟩, v, f, g⟩ := h
  exact ⟨ho.blk a h1, ho.blk b h1, Nat.le_trans c ho.size, d, e, ⟨cells, ho.blk t h4⟩, v, ho.blk f h2, ho.own g h3⟩

theorem FiresS.table {base q ob cm fb N off : Nat} {o came : Int} {s : List Frd} {w : World} (h : FiresS base q ob cm fb N o came s w) (u : Value) : FiresS base q ob cm fb N o came s (w.setCell ⟨q, off, none⟩ u) := by
  obtain ⟨a, b, c, d, e, ⟨cells, t⟩, v, f, g⟩ := h
  have hs : Only [q] w (w.setCell ⟨q, off, none⟩ u) := (Only.refl [q] w).set (.inl (by simp)) _
  exact ⟨hs.blk a (by simpa using a.ne t (by decide)), hs.blk b (by simpa using b.ne t (by decide)), Nat.le_trans c hs.size, d, e, ⟨_, t.set off u⟩, v, hs.blk f (by simpa using f.ne t (by decide)), own_setCell g (own_ne_blk g t (by decide)) _⟩

set_option maxRecDepth 100000 in
set_option maxHeartbeats 4000000 in
theorem update1_ok (base q ob cm fb N : Nat) (o came : Int) (s : List Frd) (x : Armd) (w : World) (hR : FiresS base q ob cm fb N o came s w) (hs : s.length < N) (hN : N ≤ 1000000) :
    Calls Try.prog 37 #[.agg (encarmed x).toArray, .pointer (some ⟨ob, 0, none⟩), .pointer (some ⟨cm, 0, none⟩), .pointer (some ⟨fb, 0, none⟩)] w fun e w' =>
      e = .returned (.bool (goes o came x)) ∧ FiresS base q ob cm fb N o came (firedS o came s x) w' ∧ OnlyT [73, 33] base w w' := by
  have HR := hide hR
  obtain ⟨a, b, c, d, e, ⟨cells, tt⟩, v, f, g⟩ := hR
  have e1 := a.cell (i := 0) rfl
  have e2 := b.cell (i := 0) rfl
  have e3 := f.cell (i := 0) rfl
  have l1 := a.lt
  have l2 := b.lt
  have l3 := f.lt
  have fz := f.frozen 0
  obtain ⟨A, cp, rfl⟩ := own_shape g
  have ha : Only [] w (w.alloc (Obj.cells #[I64 x.obj, I64 x.cond, I64 x.kind, I64 x.conn, I64 x.prio, I64 x.code, I64 x.val, .bool x.keep, I64 x.id] 86)) := (Only.refl [] w).alloc _
  have HA := hide ha
  have HG : Hid (Blk (w.alloc (Obj.cells #[I64 x.obj, I64 x.cond, I64 x.kind, I64 x.conn, I64 x.prio, I64 x.code, I64 x.val, .bool x.keep, I64 x.id] 86)) ob 3 [I64 o] ∧ Blk (w.alloc (Obj.cells #[I64 x.obj, I64 x.cond, I64 x.kind, I64 x.conn, I64 x.prio, I64 x.code, I64 x.val, .bool x.keep, I64 x.id] 86)) cm 3 [I64 came] ∧
      Blk (w.alloc (Obj.cells #[I64 x.obj, I64 x.cond, I64 x.kind, I64 x.conn, I64 x.prio, I64 x.code, I64 x.val, .bool x.keep, I64 x.id] 86)) fb 33 [.slice A s.length cp] ∧
      (w.alloc (Obj.cells #[I64 x.obj, I64 x.cond, I64 x.kind, I64 x.conn, I64 x.prio, I64 x.code, I64 x.val, .bool x.keep, I64 x.id] 86)).ownsRow base 73 7 (.slice A s.length cp) s.length (s.flatMap encfired) ∧ True) := hide ⟨a.alloc _, b.alloc _, f.alloc _, g.alloc _, trivial⟩
  have HX : Hid (Blk (w.alloc (Obj.cells #[I64 x.obj, I64 x.cond, I64 x.kind, I64 x.conn, I64 x.prio, I64 x.code, I64 x.val, .bool x.keep, I64 x.id] 86)) w.heap.size 86 [I64 x.obj, I64 x.cond, I64 x.kind, I64 x.conn, I64 x.prio, I64 x.code, I64 x.val, .bool x.keep, I64 x.id]) := hide (Blk.newA rfl)
  obtain ⟨i0, hi0, hz0, hs0, hb0⟩ := info_parts fired_info
  have HST := hide (show FiresS base q ob cm fb N o came s _ from FiresS.stable (Vs := []) HR.out (.of_nil ha) (by simp) (by simp) (by simp) (by simp))
  rw [show (encarmed x).toArray = #[I64 x.obj, I64 x.cond, I64 x.kind, I64 x.conn, I64 x.prio, I64 x.code, I64 x.val, .bool x.keep, I64 x.id] from rfl]
  clear ha a b f g tt
  by_cases d1 : x.obj = o
  · subst d1
    by_cases d2 : bits .and .i64 x.cond came = 0
    · have hh : Hid (hit x.obj came x = false) := hide (by unfold hit; rw [show band x.cond came = 0 from d2]; simp)
      go_enter Try.func37, Try.ntmps37
      go_wp2
      go_ret
      exact ⟨by unfold goes; rw [hh.out]; rfl, by unfold firedS; rw [if_neg (by rw [hh.out]; simp)]; exact HST.out, .of_nil HA.out⟩
    · have hh : Hid (hit x.obj came x = true) := hide (by unfold hit; simp [show ¬ band x.cond came = 0 from d2])
      have hld : ∀ j v, [I64 x.kind, I64 x.conn, I64 x.prio, I64 x.code, I64 x.val][j]? = some v → (w.alloc (Obj.cells #[I64 x.obj, I64 x.cond, I64 x.kind, I64 x.conn, I64 x.prio, I64 x.code, I64 x.val, .bool x.keep, I64 x.id] 86)).cell? ⟨w.heap.size, 2 + j, none⟩ = some v := by
        intro j v hv
        refine (Blk.newA (c := #[I64 x.obj, I64 x.cond, I64 x.kind, I64 x.conn, I64 x.prio, I64 x.code, I64 x.val, .bool x.keep, I64 x.id]) rfl).cell ?_
        rcases j with _ | _ | _ | _ | _ | j <;> simp at hv ⊢ <;> simp [hv]
      have HL := hide hld
      clear hld
      have hbf := build_fired x.id (bits .and .i64 x.cond came) x
      go_enter Try.func37, Try.ntmps37
      go_wp2_with (first
        | refine wpList_load_cells rfl 30 (.tmp 28) rfl w.heap.size 2 rfl [I64 x.kind, I64 x.conn, I64 x.prio, I64 x.code, I64 x.val] (d := _) HL.out Try.underlying30 rfl (by kernel_rfl) ?_
        | (at_builtin; refine wpList_append_own _ rfl (.tmp 19) (.tmp 31) 33 rfl base 73 i0 (.agg zsfired.toArray) 7 56 Try.underlying33 hi0 hz0 hs0 hb0 rfl (by decide) (.slice A s.length cp) s.length (s.flatMap encfired) rfl ?_ ⟨w.heap.size + 1, 0, none⟩ 1 1 (encfired (fireOf came x)) rfl rfl ?_ (by simp [encfired, Value.oneCell']) (by unfold maxLen; omega) (by omega) ?_ ?_))
      · exact HG.out.2.2.2.1.alloc _
      · intro j u hu
        rw [show (⟨w.heap.size + 1, 0, none⟩ : Addr).add j = ⟨w.heap.size + 1, j, none⟩ by unfold Addr.add; split <;> simp_all]
        exact (Blk.to (Blk.newA (by show w.heap.size + 1 = (w.heap.push _).size; rw [Array.size_push])) rfl).cell hu
      · show base ≤ ((w.heap.push _).push _).size
        rw [Array.size_push, Array.size_push]; omega
      · intro v3 w3 hown3 hgrow _
        obtain ⟨A3, c3, rfl⟩ := own_shape hown3
        have hne := own_ne_blk HG.out.2.2.2.1 HG.out.2.2.1 (by decide)
        have hT : OnlyT [73, 33] base w w3 := ((OnlyT.of_nil HA.out).trans (.of_nil ((Only.refl [] _).alloc _))).trans (OnlyT.grown (HG.out.2.2.2.1.alloc _) (by simp) (Nat.le_refl _) hgrow)
        have hb3 : Blk w3 fb 33 [.slice A s.length cp] := (HG.out.2.2.1.alloc _).grown hgrow hne
        have d3 := hb3.cell (i := 0) rfl
        have z3 := hb3.frozen 0
        have m3 := hb3.lt
        have hX := ((HX.out.alloc (Obj.cells #[I64 x.id, .int .i64 (bits .and .i64 x.cond came), I64 x.kind, I64 x.conn, I64 x.prio, I64 x.code, I64 x.val] 73)).grown hgrow (own_ne_blk HG.out.2.2.2.1 HX.out (by decide)))
        have d7 := hX.cell (i := 7) rfl
        have hXl := hX.lt
        have hne3 := own_ne_blk hown3 hb3 (by decide)
        have HK := hide (show _ ∧ _ ∧ _ from ⟨hown3, hT, hb3⟩)
        have hXne : w.heap.size ≠ fb := by omega
        clear hown3 hT hb3 hX hgrow e1 e2 e3 fz
        go_wp2
        go_ret
        have hset : Only [fb] w3 (w3.setCell ⟨fb, 0, none⟩ (.slice A3 (s.length + 1) c3)) := (Only.refl [fb] w3).set (.inl (by simp)) _
        have hfs : firedS x.obj came s x = s ++ [fireOf came x] := by unfold firedS; rw [if_pos hh.out]
        have n1 : ob ≠ fb := HG.out.1.ne HG.out.2.2.1 (by decide)
        have n2 : cm ≠ fb := HG.out.2.1.ne HG.out.2.2.1 (by decide)
        rw [hfs]
        refine ⟨by unfold goes; rw [hh.out]; rfl, ⟨hset.blk (HK.out.2.1.blk HR.out.1 (by decide)) (by simpa using n1), hset.blk (HK.out.2.1.blk HR.out.2.1 (by decide)) (by simpa using n2), ?_, by simp; omega, e, ?_, _, HK.out.2.2.set 0 _, ?_⟩,
          HK.out.2.1.trans (.of_only hset (by
            intro k hk _
            obtain rfl : k = fb := by simpa using hk
            exact ⟨e, HK.out.2.2.hasT (by simp)⟩))⟩
        · have h1 := HK.out.2.1.size
          have h2 := hset.size
          omega
        · obtain ⟨cl, ht⟩ := HR.out.2.2.2.2.2.1
          have h1 := HK.out.2.1.blk ht (by decide)
          exact ⟨cl, hset.blk h1 (by simpa using h1.ne HK.out.2.2 (by decide))⟩
        · have := own_setCell HK.out.1 (p := ⟨fb, 0, none⟩) hne3 (.slice A3 (s.length + 1) c3)
          simpa using this
  · have hh : Hid (hit o came x = false) := hide (by unfold hit; simp [d1])
    go_enter Try.func37, Try.ntmps37
    go_wp2
    go_ret
    exact ⟨by unfold goes; rw [hh.out]; rfl, by unfold firedS; rw [if_neg (by rw [hh.out]; simp)]; exact HST.out, .of_nil HA.out⟩

theorem wantU1 (base q ob cm fb N : Nat) (o came : Int) (hN : N ≤ 1000000) : WantOk base 37 #[.pointer (some ⟨ob, 0, none⟩), .pointer (some ⟨cm, 0, none⟩), .pointer (some ⟨fb, 0, none⟩)] encarmed
    [73, 33] [86, 75] (fun _ => True) (FiresS base q ob cm fb N o came) (fun s => N - s.length) (fun _ x => goes o came x) (firedS o came) where
  left := fun s x => by
    show N - s.length ≤ N - (firedS o came s x).length + 1
    unfold firedS
    split
    · rw [List.length_append, List.length_singleton]; omega
    · omega
  enter := fun args w => by kernel_rfl
  call := fun s x w _ hl hR => update1_ok base q ob cm fb N o came s x w hR (by omega) hN
  stable := fun s w w' hR ho => hR.stable ho (by decide) (by decide) (by decide) (by decide)

end Go.Proofs.Ytacnmlifmjflfaa
