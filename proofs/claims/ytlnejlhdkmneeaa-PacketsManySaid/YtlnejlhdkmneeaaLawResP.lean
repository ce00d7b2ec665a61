/- PacketsResolves: what the law keeps; EqualFunc over rows that may begin inside their blocks. -/
import Derived.Test.YtlnejlhdkmneeaaResH
import Derived.Test.YtlnejlhdkmneeaaRefC
import Derived.Test.YtlnejlhdkmneeaaRefE
import Derived.Test.YtlnejlhdkmneeaaWalkI
namespace Go.Proofs.Ytlnejlhdkmneeaa
open Go.RowKit

/-- A slice of packets in memory. -/
def PksIn (w : World) (A : Option Addr) (l : List Pkt) : Prop :=
  ∀ (k : Nat) (r : Pkt), l[k]? = some r → ∃ b o, A = some ⟨b, o, none⟩ ∧ ∀ (j : Nat) (v : Value), r.cells[j]? = some v → w.cell? ⟨b, o + k * 8 + j, none⟩ = some v
theorem PksIn.only {w w' : World} {A : Option Addr} {l : List Pkt} (h : PksIn w A l) (ho : Only [] w w') : PksIn w' A l := by
  intro k r hr
  obtain ⟨b, o, hA, hc⟩ := h k r hr
  exact ⟨b, o, hA, fun j v hv => by rw [World.cell?_of_block (w := w) (ho.block b (World.block_lt_of_cell? _ _ (hc j v hv)) (by simp))]; exact hc j v hv⟩
theorem pks_of_off {w : World} {base : Nat} {T : TypeId} {A : Option Addr} {n c : Nat} {qs : List Pkt} (h : offRow w base T 8 (.slice A n c) n (qs.flatMap Pkt.cells)) : PksIn w A qs := by
  intro k r hr
  have hk := (List.getElem?_eq_some_iff.1 hr).1
  have hl := h.1
  have hfl : (qs.flatMap Pkt.cells).length = qs.length * 8 := by
    clear h hr hk hl
    induction qs with
    | nil => rfl
    | cons q r ih => rw [List.flatMap_cons, List.length_append, ih, Pkt.cells_len, List.length_cons]; omega
  obtain ⟨g, o, cap, cs, hv, -, -, -⟩ := off_blk h (by omega)
  injection hv with h1 h2 h3
  subst h1
  refine ⟨g, o, rfl, fun j v hv => ?_⟩
  have := off_cells h rfl (k * 8 + j) v (flat_at Pkt.cells_len qs k r j v hr hv)
  rwa [← Nat.add_assoc] at this

set_option maxRecDepth 100000 in
set_option maxHeartbeats 8000000 in
theorem eqfunc_off (A A' : Option Addr) (n c c' : Nat) (qs rs : List Pkt) (w : World) (hg : PksIn w A qs) (hh : PksIn w A' rs) (hn : n ≤ 1000000) (hs : ∀ k, k < n → SameAt w qs rs k) :
    Calls Try.prog 24 #[.slice A n c, .slice A' n c', .func (.func 25) #[] #[]] w fun e w' => e = .returned (.bool true) ∧ Only [] w w' := by
  have HG := hide hg
  have HH := hide hh
  have HSS := hide hs
  clear hg hh hs
  go_enter Try.func24, Try.ntmps24
  go_wp2
  go_loopw [17] (fun i wr => ∃ k : Nat, k ≤ n ∧ i = .int .i64 k ∧ Hid (Only [] w wr)) (fun i _ => n - (Go.RowKit.intOf i).toNat)
  case atStart => exact ⟨0, Nat.zero_le _, rfl, hide (Only.refl _ _)⟩
  case round =>
    obtain ⟨k, hk, rfl, HW⟩ := hrel
    rcases Nat.lt_or_ge k n with hlt | hge
    · obtain ⟨q, B, d, hq, hr, hqA, hqB, hql⟩ := HSS.out k hlt
      obtain ⟨g, og, rfl, hcg⟩ := (HG.out.only HW.out) k q hq
      have hhA := (HH.out.only (HW.out.alloc (.cells #[.int .u32 q.src, .int .u32 q.dst, I64 q.proto, I64 q.ttl, I64 q.id, I64 q.off, .bool q.more, .slice q.A q.data.length q.cap] 30))) k _ hr
      obtain ⟨h, oh, rfl, hch⟩ := hhA
      have hc1 : Hid (∀ j v, [.int .u32 q.src, .int .u32 q.dst, I64 q.proto, I64 q.ttl, I64 q.id, I64 q.off, .bool q.more, .slice q.A q.data.length q.cap][j]? = some v → wr.cell? ⟨g, og + k * 8 + j, none⟩ = some v) := hide fun j v hv => hcg j v hv
      have hc2 : Hid (∀ j v, [.int .u32 q.src, .int .u32 q.dst, I64 q.proto, I64 q.ttl, I64 q.id, I64 q.off, .bool q.more, .slice B q.data.length d][j]? = some v → (wr.alloc (.cells #[.int .u32 q.src, .int .u32 q.dst, I64 q.proto, I64 q.ttl, I64 q.id, I64 q.off, .bool q.more, .slice q.A q.data.length q.cap] 30)).cell? ⟨h, oh + k * 8 + j, none⟩ = some v) := hide fun j v hv => hch j v hv
      have H3 := hide (And.intro hqA hqB)
      clear hq hr hqA hqB hcg hch
      go_wp2_with (first
        | refine wpList_load_cells rfl 30 (.tmp 20) rfl g (og + k * 8) rfl [.int .u32 q.src, .int .u32 q.dst, I64 q.proto, I64 q.ttl, I64 q.id, I64 q.off, .bool q.more, .slice q.A q.data.length q.cap] (d := _) hc1.out Try.underlying30 rfl (by kernel_rfl) ?_
        | refine wpList_load_cells rfl 45 (.tmp 24) rfl h (oh + k * 8) rfl [.int .u32 q.src, .int .u32 q.dst, I64 q.proto, I64 q.ttl, I64 q.id, I64 q.off, .bool q.more, .slice B q.data.length d] (d := _) hc2.out Try.underlying45 rfl (by kernel_rfl) ?_)
      refine (same_true q B d _ hql (H3.out.1.only ((HW.out.alloc _).alloc _)) (H3.out.2.only ((HW.out.alloc _).alloc _))).mono ?_
      rintro e w1 ⟨rfl, ho⟩
      have H4 := hide (Only.trans ((HW.out.alloc _).alloc _) ho)
      clear ho
      go_wp2
      go_roundw
      case rel => exact ⟨k + 1, by omega, by go_num, H4⟩
      case measure => simp [Go.RowKit.intOf]; omega
    · obtain rfl : k = n := by omega
      go_wp2
      go_ret
      exact ⟨rfl, HW.out⟩

/-! What a resolver of the law holds behind k calls. -/
def InvL (l : List Ent) (k : Nat) : Prop := l.length ≤ k ∧ ∀ x ∈ l, (0 ≤ x.a ∧ x.a < 4294967296) ∧ x.wt.length ≤ 4 ∧ ∀ p ∈ x.wt, p.data.length ≤ 65535
theorem InvL.ok {l : List Ent} {k : Nat} (h : InvL l k) (hk : k ≤ 200) (a : Int) : EntOk l a := ⟨.inr (by have := h.1; omega), fun x hx => (h.2 x hx).1⟩
theorem InvL.nil : InvL [] 0 := ⟨Nat.le_refl _, by simp⟩
theorem InvL.more {l : List Ent} {k : Nat} (h : InvL l k) : InvL l (k + 1) := ⟨by have := h.1; omega, h.2⟩
theorem InvL.inE {l : List Ent} {k : Nat} (h : InvL l k) (a : Int) : (inE l a).wt.length ≤ 4 ∧ ∀ p ∈ (inE l a).wt, p.data.length ≤ 65535 := by
  unfold Proofs.Ytlnejlhdkmneeaa.inE
  cases hg : getE l a with
  | none => simp [newE]
  | some x => exact (h.2 x (getE_some hg).1).2
theorem InvL.setE {l : List Ent} {k : Nat} (h : InvL l k) (a : Int) (ha : 0 ≤ a ∧ a < 4294967296) {y : Ent} (hy : (0 ≤ y.a ∧ y.a < 4294967296) ∧ y.wt.length ≤ 4 ∧ ∀ p ∈ y.wt, p.data.length ≤ 65535) : InvL (setE (entL l a) y) (k + 1) := by
  refine ⟨by rw [setE_len]; have := entL_len l a; have := h.1; omega, fun x hx => ?_⟩
  rcases mem_setE hx with rfl | ⟨hx, -⟩
  · exact hy
  · rcases mem_entL hx with hx | rfl
    · exact h.2 x hx
    · exact ⟨ha, by simp [newE]⟩
theorem InvL.learn {l : List Ent} {k : Nat} (h : InvL l k) (a hw now life clock : Int) (ha : 0 ≤ a ∧ a < 4294967296) : InvL (learnL l a hw now life clock).1 (k + 1) ∧ (learnL l a hw now life clock).2.2.2.length ≤ 4 ∧ ∀ p ∈ (learnL l a hw now life clock).2.2.2, p.data.length ≤ 65535 := by
  unfold learnL
  split
  · exact ⟨h.more, by simp⟩
  · split
    · exact ⟨h.more, by simp⟩
    · exact ⟨h.setE a ha (by simpa using ha), h.inE a⟩
theorem valid_len {p : Pkt} (h : p.valid = 0) : p.data.length ≤ 65535 := by
  have hb : ¬ p.bad := fun hb => by rw [Pkt.valid_bad hb] at h; cases h
  unfold Pkt.bad at hb
  omega
theorem InvL.sub {l : List Ent} {k : Nat} (h : InvL l k) (a : Int) (p : Pkt) (now clock : Int) (ha : 0 ≤ a ∧ a < 4294967296) : InvL (subL l a p now clock).1 (k + 1) := by
  unfold subL
  split
  · exact h.more
  · rename_i hv
    have hp : p.data.length ≤ 65535 := valid_len (by simpa using hv)
    split
    · exact h.more
    · split
      · exact h.more
      · refine h.setE a ha ?_
        have h1 := h.inE a
        have h2 : ∀ q ∈ (Proofs.Ytlnejlhdkmneeaa.inE l a).wt ++ [p], q.data.length ≤ 65535 := by
          intro q hq
          rcases List.mem_append.1 hq with hq | hq
          · exact h1.2 q hq
          · obtain rfl : q = p := by simpa using hq
            exact hp
        unfold subE cutP
        dsimp only
        split
        · exact ⟨ha, by rw [List.length_drop, List.length_append]; simp; omega, fun q hq => h2 q (List.mem_of_mem_drop hq)⟩
        · exact ⟨ha, by omega, h2⟩

theorem bytes_nums {w : World} {B : Option Addr} {data : List Nat} (h : BytesBlk w B data) : NumsIn w .u8 B data := h.nums

theorem same_lie {w : World} {ps qs rs : List Pkt} (h1 : PkLie w ps qs) (h2 : PkLie w ps rs) (hp : ∀ p ∈ ps, p.data.length ≤ 65535) : ∀ k, k < ps.length → SameAt w qs rs k := by
  intro k hk
  obtain ⟨p, hpk⟩ : ∃ p, ps[k]? = some p := ⟨_, List.getElem?_eq_getElem hk⟩
  obtain ⟨B, d, hq, hb⟩ := h1.2 k p hpk
  obtain ⟨B', d', hr, hb'⟩ := h2.2 k p hpk
  refine ⟨p.at B d, B', d', hq, hr, hb.nums, hb'.nums, ?_⟩
  have := hp p (List.mem_of_getElem? hpk)
  show p.data.length ≤ maxLen
  simp only [maxLen]; omega

set_option maxRecDepth 100000 in
set_option maxHeartbeats 4000000 in
/-- Submit of any packet. -/
theorem submit_any (base q b m : Nat) (life clock a now : Int) (p : Pkt) (l : List Ent) (eb : Int → Nat) (vb : Int → Value) (w : World) (h : ResAt base q b m life clock l eb vb w) (ha : 0 ≤ a ∧ a < 4294967296) (hm : m ≤ 1000000) (hbw : base ≤ w.heap.size)
    (hl : EntOk l a) (hw4 : ∀ x ∈ l, x.wt.length ≤ 4) (hA : NumsIn w .u8 p.A p.data) (hsz : p.data.length ≤ maxLen) (hA0 : p.A = none → p.data.length = 0 ∧ p.cap = 0)
    (hAb : ∀ g o s, p.A = some ⟨g, o, s⟩ → p.data ≠ [] → g < base) :
    Calls Try.prog 42 #[.pointer (some ⟨q, 0, none⟩), .int .u32 a, p.V, I64 now] w fun e w' => SubmitS base q b m life (subL l a p now clock) w e w' := by
  by_cases hv : p.valid = 0
  · exact submit_ok base q b m life clock a now p l eb vb w h ha hm hbw hl hw4 hA (by have := valid_len hv; omega) hA0 hAb
  have hO : Only [] w (w.alloc (.cells #[.int .u32 p.src, .int .u32 p.dst, I64 p.proto, I64 p.ttl, I64 p.id, I64 p.off, .bool p.more, .slice p.A p.data.length p.cap] 30)) := (Only.refl [] w).alloc _
  have H0 := hide (show _ ∧ _ from ⟨hO, h.only hO⟩)
  have HSM := hide hsz
  show Calls Try.prog 42 #[.pointer (some ⟨q, 0, none⟩), .int .u32 a, .agg #[.int .u32 p.src, .int .u32 p.dst, I64 p.proto, I64 p.ttl, I64 p.id, I64 p.off, .bool p.more, .slice p.A p.data.length p.cap], I64 now] w _
  have hR := hide (subL_bad (l := l) (a := a) (now := now) (clock := clock) hv)
  have hv' : (p.valid != 0) = true := by simpa using hv
  clear hO h hsz hA hA0 hbw hl hw4 hm hAb hv ha
  go_enter Try.func42, Try.ntmps42
  go_wp2_with fail
  refine (Valid_ok p _ HSM.out).mono ?_
  rintro e w1 ⟨rfl, ho1⟩
  have H1 := hide (show _ ∧ _ from ⟨Only.trans H0.out.1 ho1, H0.out.2.only ho1⟩)
  clear ho1 H0
  go_wp2
  go_ret3
  rw [hR.out]
  exact ⟨eb, vb, rfl, H1.out.2.more (by omega), .of (.of_nil H1.out.1)⟩

set_option maxRecDepth 100000 in
set_option maxHeartbeats 4000000 in
theorem rsubmit_any (base y : Nat) (life clock a now : Int) (p : Pkt) (l : List Ent) (zs : List (Ent × Value)) (va : Value) (w : World) (h : RResAt base y life clock l zs va w) (hbw : base ≤ w.heap.size)
    (hl : (getE l a).isSome = true ∨ l.length ≤ 200) (hm : l.length ≤ 1000000) (hw4 : (inE l a).wt.length ≤ 4) (hA : NumsIn w .u8 p.A p.data) (hsz : p.data.length ≤ maxLen) (hA0 : p.A = none → p.data.length = 0 ∧ p.cap = 0)
    (hAb : ∀ g o s, p.A = some ⟨g, o, s⟩ → p.data ≠ [] → g < base) :
    Calls Try.prog 43 #[.pointer (some ⟨y, 0, none⟩), .int .u32 a, p.V, I64 now] w fun e w' => RSubmitS base y life (subL l a p now clock) w e w' := by
  by_cases hv : p.valid = 0
  · exact rsubmit_ok base y life clock a now p l zs va w h hbw hl hm hw4 hA (by have := valid_len hv; omega) hA0 hAb
  have hO : Only [] w (w.alloc (.cells #[.int .u32 p.src, .int .u32 p.dst, I64 p.proto, I64 p.ttl, I64 p.id, I64 p.off, .bool p.more, .slice p.A p.data.length p.cap] 45)) := (Only.refl [] w).alloc _
  have H0 := hide (show _ ∧ _ from ⟨hO, h.only hO⟩)
  have HSM := hide hsz
  show Calls Try.prog 43 #[.pointer (some ⟨y, 0, none⟩), .int .u32 a, .agg #[.int .u32 p.src, .int .u32 p.dst, I64 p.proto, I64 p.ttl, I64 p.id, I64 p.off, .bool p.more, .slice p.A p.data.length p.cap], I64 now] w _
  have hR := hide (subL_bad (l := l) (a := a) (now := now) (clock := clock) hv)
  have hv' : (p.valid != 0) = true := by simpa using hv
  clear hO h hsz hA hA0 hbw hl hw4 hm hAb hv
  go_enter Try.func43, Try.ntmps43
  go_wp2_with fail
  refine (refValid_ok p _ HSM.out).mono ?_
  rintro e w1 ⟨rfl, ho1⟩
  have H1 := hide (show _ ∧ _ from ⟨Only.trans H0.out.1 ho1, H0.out.2.only ho1⟩)
  clear ho1 H0
  go_wp2
  go_ret3
  rw [hR.out]
  exact ⟨zs, va, rfl, H1.out.2, .of_nil H1.out.1⟩

end Go.Proofs.Ytlnejlhdkmneeaa
