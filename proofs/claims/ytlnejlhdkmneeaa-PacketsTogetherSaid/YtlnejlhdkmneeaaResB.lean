/- The resolver: ticks, time, known, entry, NewResolver; clone, with the block it makes. -/
import Derived.Test.YtlnejlhdkmneeaaResA
namespace Go.Proofs.Ytlnejlhdkmneeaa
open Go.RowKit

def tickB (t : Int) : Bool := decide (0 ≤ t) && decide (t ≤ 1099511627776)
set_option maxHeartbeats 1000000 in
theorem ticks_ok (t : Int) (w : World) : Calls Try.prog 74 #[I64 t] w fun e w' => e = .returned (.bool (tickB t)) ∧ w' = w := by
  by_cases h1 : 0 ≤ t
  · by_cases h2 : t ≤ 1099511627776
    · have hR : Hid (tickB t = true) := hide (by simp [tickB, h1, h2])
      go_enter Try.func74, Try.ntmps74
      go_wp2
      go_ret
      rw [hR.out]; exact ⟨rfl, rfl⟩
    · have hR : Hid (tickB t = false) := hide (by simp [tickB, h2])
      go_enter Try.func74, Try.ntmps74
      go_wp2
      go_ret
      rw [hR.out]; exact ⟨rfl, rfl⟩
  · have hR : Hid (tickB t = false) := hide (by simp [tickB, h1])
    go_enter Try.func74, Try.ntmps74
    go_wp2
    go_ret
    rw [hR.out]; exact ⟨rfl, rfl⟩

theorem timeC_34 {now clock : Int} (h : tickB now = false) : timeC now clock = 34 := by
  unfold timeC; rw [if_pos]
  simp [tickB] at h; omega
theorem timeC_30 {now clock : Int} (h : tickB now = true) (h2 : now < clock) : timeC now clock = 30 := by
  simp [tickB] at h
  unfold timeC; rw [if_neg (by omega), if_pos h2]
theorem timeC_0 {now clock : Int} (h : tickB now = true) (h2 : ¬ now < clock) : timeC now clock = 0 := by
  simp [tickB] at h
  unfold timeC; rw [if_neg (by omega), if_neg h2]
theorem timeC_ok {now clock : Int} (h : timeC now clock = 0) : 0 ≤ now ∧ now ≤ 1099511627776 ∧ ¬ now < clock := by
  unfold timeC at h
  split at h
  · omega
  · split at h <;> omega

set_option maxHeartbeats 1000000 in
theorem time_ok (q : Nat) (life clock now : Int) (mv : Value) (w : World) (h : Blk w q resT [I64 life, I64 clock, mv]) :
    Calls Try.prog 82 #[.pointer (some ⟨q, 0, none⟩), I64 now] w fun e w' => e = .returned (I64 (timeC now clock)) ∧ w' = w := by
  have c1 := h.cell (i := 1) rfl
  have lt := h.lt
  clear h
  by_cases h1 : tickB now = true
  · by_cases h2 : now < clock
    · have hR := hide (timeC_30 h1 h2)
      go_enter Try.func82, Try.ntmps82
      go_wp2_with fail
      refine (ticks_ok now _).mono ?_
      rintro e w1 ⟨rfl, rfl⟩
      go_wp2
      go_ret
      rw [hR.out]; exact ⟨rfl, rfl⟩
    · have hR := hide (timeC_0 h1 h2)
      go_enter Try.func82, Try.ntmps82
      go_wp2_with fail
      refine (ticks_ok now _).mono ?_
      rintro e w1 ⟨rfl, rfl⟩
      go_wp2
      go_ret
      rw [hR.out]; exact ⟨rfl, rfl⟩
  · have h1' : tickB now = false := by simpa using h1
    have hR := hide (timeC_34 (clock := clock) h1')
    clear h1
    go_enter Try.func82, Try.ntmps82
    go_wp2_with fail
    refine (ticks_ok now _).mono ?_
    rintro e w1 ⟨rfl, rfl⟩
    go_wp2
    go_ret
    rw [hR.out]; exact ⟨rfl, rfl⟩

set_option maxHeartbeats 1000000 in
theorem time_nil (now : Int) (w : World) : Calls Try.prog 82 #[.pointer none, I64 now] w fun e w' => e = .returned (I64 35) ∧ w' = w := by
  go_enter Try.func82, Try.ntmps82
  go_wp2
  go_ret
  exact ⟨rfl, rfl⟩

theorem k32 : Maps.Keyed Try.prog u32T := Maps.int_keyed (q := .u32) Try.underlying27
theorem key32 {a : Int} (ha : 0 ≤ a ∧ a < 4294967296) : keyOf Try.prog u32T (.int .u32 a) = some (.int .u32 a) := Maps.keyOf_int_mk Try.underlying27 (by simp [Lit.wf, IntKind.min, IntKind.max, IntKind.signed, IntKind.bits]; omega)
theorem zpent (w : World) : (zeroValue pentT).run Try.prog w = .ok (.pointer none) w := by kernel_rfl

/-- What NewResolver answers. -/
def NewResS (life : Int) (w : World) (e : Ending) (w' : World) : Prop :=
  if life < 1 ∨ 1099511627776 < life then e = .returned (.tuple #[.pointer none, I64 34]) ∧ Only [] w w'
  else ∃ q b, e = .returned (.tuple #[.pointer (some ⟨q, 0, none⟩), I64 0]) ∧ ResAt w.heap.size q b 0 life 0 [] (fun _ => 0) (fun _ => .slice none 0 0) w' ∧ Only [] w w'
theorem build_res (life : Int) (b : Nat) : ∀ w : World, (Instr.build 164 #[(0, I64 life), (2, .map (some b))]).run Try.prog w = .ok (.agg #[I64 life, I64 0, .map (some b)]) w := fun _ => by kernel_rfl
set_option maxHeartbeats 1000000 in
theorem newRes_ok (life : Int) (w : World) : Calls Try.prog 40 #[I64 life] w fun e w' => NewResS life w e w' := by
  by_cases h1 : life < 1
  · have hR : Hid (life < 1 ∨ 1099511627776 < life) := hide (.inl h1)
    go_enter Try.func40, Try.ntmps40
    go_wp2
    go_ret2
    unfold NewResS; rw [if_pos hR.out]; exact ⟨rfl, Only.refl _ _⟩
  · by_cases h2 : 1099511627776 < life
    · have hR : Hid (life < 1 ∨ 1099511627776 < life) := hide (.inr h2)
      go_enter Try.func40, Try.ntmps40
      go_wp2
      go_ret2
      unfold NewResS; rw [if_pos hR.out]; exact ⟨rfl, Only.refl _ _⟩
    · have hR : Hid (¬ (life < 1 ∨ 1099511627776 < life)) := hide (by omega)
      have hb := build_res life w.heap.size
      have hmk := run_makeMap (P := Try.prog) 162 w
      go_enter Try.func40, Try.ntmps40
      go_wp2
      go_ret2
      unfold NewResS; rw [if_neg hR.out]
      have hM := PtrMap.made w u32T 0
      have ho : Only [] w ((w.alloc (.map #[] 0)).alloc (.cells #[I64 life, I64 0, .map (some w.heap.size)] resT)) := ((Only.refl [] w).alloc _).alloc _
      exact ⟨_, _, rfl, ⟨Blk.newA (by simp), (hM.alloc _).ext (fun kl _ => by unfold lookF getE; split <;> simp), by simp, by simp, by simp [addrs], by simp, Nat.le_refl _, by simp⟩, ho⟩

theorem lookF_some {l : List Ent} {eb : Int → Nat} {a : Int} {x : Ent} (h : getE l a = some x) : lookF l eb (.int .u32 a) = some (eb a) := by simp [lookF, h]
theorem lookF_none {l : List Ent} {eb : Int → Nat} {a : Int} (h : getE l a = none) : lookF l eb (.int .u32 a) = none := by simp [lookF, h]

set_option maxHeartbeats 2000000 in
theorem known_ok (base q b m : Nat) (life clock a now : Int) (l : List Ent) (eb : Int → Nat) (vb : Int → Value) (w : World) (h : ResAt base q b m life clock l eb vb w) (ha : 0 ≤ a ∧ a < 4294967296) :
    Calls Try.prog 83 #[.pointer (some ⟨q, 0, none⟩), .int .u32 a, I64 now] w fun e w' => e = .returned (.int .u64 (knownL l a now)) ∧ w' = w := by
  have c2 := h.me.cell (i := 2) rfl
  have lt := h.me.lt
  have HM := hide h.map
  have hk := key32 ha
  cases hg : getE l a with
  | none =>
    have hR : Hid (knownL l a now = 0) := hide (by unfold knownL; rw [hg])
    have HL := hide (lookF_none (eb := eb) hg)
    clear hg h
    go_enter Try.func83, Try.ntmps83
    go_wp2_with (at_lookup; refine wpList_ptr_none _ rfl _ _ 162 rfl u32T pentT k32 Try.underlying162 (zpent _) b m l.length (lookF l eb) rfl HM.out _ (.int .u32 a) rfl hk HL.out ?_)
    go_ret
    rw [hR.out]; exact ⟨rfl, rfl⟩
  | some x =>
    obtain ⟨hx, rfl⟩ := getE_some hg
    have hE := h.ents x hx
    have e0 := hE.me.cell (i := 0) rfl
    have e1 := hE.me.cell (i := 1) rfl
    have lte := hE.me.lt
    have HL := hide (lookF_some (eb := eb) hg)
    by_cases hn : now < x.ex
    · have hR : Hid (knownL l x.a now = x.hw) := hide (by unfold knownL; rw [hg]; simp only; rw [if_pos hn])
      clear hg h hx hE
      go_enter Try.func83, Try.ntmps83
      go_wp2_with (at_lookup; refine wpList_ptr_some _ rfl _ _ 162 rfl u32T pentT k32 Try.underlying162 (zpent _) b m l.length (lookF l eb) rfl HM.out _ (.int .u32 x.a) rfl hk (eb x.a) HL.out ?_)
      go_ret
      rw [hR.out]; exact ⟨rfl, rfl⟩
    · have hR : Hid (knownL l x.a now = 0) := hide (by unfold knownL; rw [hg]; simp only; rw [if_neg hn])
      clear hg h hx hE
      go_enter Try.func83, Try.ntmps83
      go_wp2_with (at_lookup; refine wpList_ptr_some _ rfl _ _ 162 rfl u32T pentT k32 Try.underlying162 (zpent _) b m l.length (lookF l eb) rfl HM.out _ (.int .u32 x.a) rfl hk (eb x.a) HL.out ?_)
      go_ret
      rw [hR.out]; exact ⟨rfl, rfl⟩

/-- What clone answers, with the block it makes. -/
def PCloneB (p : Pkt) (w : World) (e : Ending) (w' : World) : Prop := ∃ A c, e = .returned (p.at A c).V ∧ Only [] w w' ∧ BytesBlk w' A p.data

set_option maxRecDepth 100000 in
set_option maxHeartbeats 4000000 in
theorem pcloneB_ok (p : Pkt) (w : World) (hA : NumsIn w .u8 p.A p.data) (hsz : p.data.length ≤ 1000000) (hA0 : p.A = none → p.data.length = 0 ∧ p.cap = 0) :
    Calls Try.prog 64 #[p.V] w fun e w' => PCloneB p w e w' := by
  have hO : Only [] w ((w.alloc (.cells #[.int .u32 p.src, .int .u32 p.dst, I64 p.proto, I64 p.ttl, I64 p.id, I64 p.off, .bool p.more, .slice p.A p.data.length p.cap] 30)).alloc (.cells zsP.toArray 30)) := ((Only.refl [] w).alloc _).alloc _
  have h1 : Blk ((w.alloc (.cells #[.int .u32 p.src, .int .u32 p.dst, I64 p.proto, I64 p.ttl, I64 p.id, I64 p.off, .bool p.more, .slice p.A p.data.length p.cap] 30)).alloc (.cells zsP.toArray 30)) w.heap.size 30 [.int .u32 p.src, .int .u32 p.dst, I64 p.proto, I64 p.ttl, I64 p.id, I64 p.off, .bool p.more, .slice p.A p.data.length p.cap] := (Blk.newA rfl).alloc _
  have h2 : Blk ((w.alloc (.cells #[.int .u32 p.src, .int .u32 p.dst, I64 p.proto, I64 p.ttl, I64 p.id, I64 p.off, .bool p.more, .slice p.A p.data.length p.cap] 30)).alloc (.cells zsP.toArray 30)) (w.heap.size + 1) 30 zsP := Blk.newA (by simp)
  have HA := hide hA
  have HO := hide (show _ ∧ _ ∧ _ from ⟨hO, h1, h2⟩)
  have H0 := hide hA0
  show Calls Try.prog 64 #[.agg #[.int .u32 p.src, .int .u32 p.dst, I64 p.proto, I64 p.ttl, I64 p.id, I64 p.off, .bool p.more, .slice p.A p.data.length p.cap]] w _
  clear hA hO h1 h2 hA0
  go_enter Try.func64, Try.ntmps64
  go_wp2_with fail
  refine (clone_ok p.A p.data p.data.length p.cap _ rfl (HA.out.only HO.out.1) hsz H0.out).mono ?_
  rintro e w1 ⟨A', c', rfl, ho, hbb, -, -, -⟩
  have k1 := ho.blk HO.out.2.1 (by simp)
  have k2 := ho.blk HO.out.2.2 (by simp)
  have f0 := k1.cell (i := 0) rfl
  have f1 := k1.cell (i := 1) rfl
  have f2 := k1.cell (i := 2) rfl
  have f3 := k1.cell (i := 3) rfl
  have f4 := k1.cell (i := 4) rfl
  have f5 := k1.cell (i := 5) rfl
  have f6 := k1.cell (i := 6) rfl
  have f7 := k1.cell (i := 7) rfl
  have z7 := k1.frozen 7
  have lt1 := k1.lt
  have lt2 := k2.lt
  have k3 : Blk (w1.setCell ⟨w.heap.size, 7, none⟩ (.slice A' p.data.length c')) (w.heap.size + 1) 30 zsP := k2.far (by simp) _
  have k4 : Only [w.heap.size] w1 (w1.setCell ⟨w.heap.size, 7, none⟩ (.slice A' p.data.length c')) := (Only.refl _ _).set (.inl (by simp)) _
  have K := hide (show _ ∧ _ ∧ _ ∧ _ ∧ _ from ⟨Only.trans HO.out.1 ho, k3, k4, hbb, k1⟩)
  clear k1 k2 k3 k4 ho hbb HO
  go_wp2_with (refine wpList_store_cells rfl 30 (.tmp 2) (.tmp 7) rfl (w.heap.size + 1) 0 rfl [.int .u32 p.src, .int .u32 p.dst, I64 p.proto, I64 p.ttl, I64 p.id, I64 p.off, .bool p.more, .slice A' p.data.length c'] rfl 30 zsP K.out.2.1 (by exact Nat.le_refl _) (by kernel_rfl) (by simp [Value.oneCell']) ?_; intro v1 hw3)
  have ho2 : Only [] w v1 := (K.out.1.trans' K.out.2.2.1 (by intro i hi; simp at hi; omega)).trans' hw3.2.1 (by intro i hi; simp at hi; omega)
  have hb2 : BytesBlk v1 A' p.data := (K.out.2.2.2.1.onlyT (OnlyT.of_only (Ts := [30]) (base := 0) K.out.2.2.1 (fun j hj _ => ⟨Nat.zero_le _, by simp at hj; subst hj; exact K.out.2.2.2.2.hasT (by simp)⟩)) (by decide)).onlyT (OnlyT.of_only (Ts := [30]) (base := 0) hw3.2.1 (fun j hj _ => ⟨Nat.zero_le _, by simp at hj; subst hj; exact K.out.2.1.hasT (by simp)⟩)) (by decide)
  refine bodyPost_ret (results_cell1 rfl _ _ _ rfl (load_pkt (p := p.at A' c') (Blk.to hw3.1 (by rfl)))) rfl ?_
  exact ⟨A', c', rfl, ho2, hb2⟩


/-- What entry answers: the address's block. -/
def EntryS (base q b m : Nat) (life clock a : Int) (l : List Ent) (w : World) (e : Ending) (w' : World) : Prop :=
  ∃ eb vb, e = .returned (.pointer (some ⟨eb a, 0, none⟩)) ∧ ResAt base q b (m + 1) life clock (entL l a) eb vb w' ∧ Only [b] w w'

theorem build_ent : ∀ w : World, (Instr.build 173 #[]).run Try.prog w = .ok (.agg #[.int .u64 0, I64 0, I64 0, .slice none 0 0]) w := fun _ => by kernel_rfl
set_option maxRecDepth 100000 in
set_option maxHeartbeats 4000000 in
theorem entry_lt (base q b m : Nat) (life clock a : Int) (l : List Ent) (eb : Int → Nat) (vb : Int → Value) (w : World) (h : ResAt base q b m life clock l eb vb w) (ha : 0 ≤ a ∧ a < 4294967296) (hm : m ≤ 1000000) (hbw : base ≤ w.heap.size)
    (hl : (getE l a).isSome = true ∨ l.length < 200) : Calls Try.prog 84 #[.pointer (some ⟨q, 0, none⟩), .int .u32 a] w fun e w' => EntryS base q b m life clock a l w e w' := by
  have hal : Only [] w (w.alloc (.cells #[.pointer (some ⟨q, 0, none⟩)] 84)) := (Only.refl [] w).alloc _
  have h0 := h.only hal
  have c2 := h0.me.cell (i := 2) rfl
  have lt := h0.me.lt
  have HB0 := hide hal
  have HM := hide h0.map
  have hk := key32 ha
  cases hg : getE l a with
  | some x =>
    obtain ⟨hx, rfl⟩ := getE_some hg
    have HL := hide (lookF_some (eb := eb) hg)
    have HE := hide (entL_some hg)
    have H0 := hide (show ResAt base q b (m + 1) life clock l eb vb _ from ⟨h0.me, h0.map.mono (by omega), h0.ents, h0.inj, h0.nodup, h0.bq, h0.bb, h0.be⟩)
    clear hg h hx hl h0 hal
    go_enter Try.func84, Try.ntmps84
    go_wp2_with (at_lookup; refine wpList_ptr_some _ rfl _ _ 162 rfl u32T pentT k32 Try.underlying162 (zpent _) b m l.length (lookF l eb) rfl HM.out _ (.int .u32 x.a) rfl hk (eb x.a) HL.out ?_)
    go_ret
    exact ⟨eb, vb, rfl, by rw [HE.out]; exact H0.out, HB0.out.mono (by simp)⟩
  | none =>
    have hlen : l.length < 200 := by
      rcases hl with hl | hl
      · rw [hg] at hl; cases hl
      · exact hl
    have HL := hide (lookF_none (eb := eb) hg)
    have HE := hide (entL_none hg hlen)
    have H0 := hide h0
    have HG := hide hg
    have HBW := hide hbw
    have hnl : ¬ ((200 : Int) ≤ (l.length : Int)) := by omega
    clear hg h hl h0 hal hbw
    go_enter Try.func84, Try.ntmps84
    go_wp2_with (first | (at_lookup; refine wpList_ptr_none _ rfl _ _ 162 rfl u32T pentT k32 Try.underlying162 (zpent _) b m l.length (lookF l eb) rfl HM.out _ (.int .u32 a) rfl hk HL.out ?_) | (at_len; refine wpList_ptr_len _ rfl _ 162 rfl u32T pentT Try.underlying162 b m l.length (lookF l eb) rfl HM.out ?_) | fail)
    obtain ⟨w2, hrun, hM2, ho2⟩ := ((HM.out.alloc (.cells #[.int .u64 0, I64 0, I64 0, .slice none 0 0] 173))).store k32 Try.underlying162 (t := 162) (by simp only [maxLen]; omega) hk (w.heap.size + 1)
    rw [HL.out] at hM2
    have HO := hide (show Only [b] (w.alloc (.cells #[.pointer (some ⟨q, 0, none⟩)] 84)) w2 from ((((Only.refl [] _).alloc _).mono (by simp)).trans ho2))
    have hq2 : Blk w2 q resT [I64 life, I64 clock, .map (some b)] := HO.out.blk H0.out.me (by simpa using Ne.symm (HM.out.ne H0.out.me))
    have he2 : Blk w2 (w.heap.size + 1) entT [.int .u64 0, I64 0, I64 0, .slice none 0 0] := ho2.blk (Blk.newA (by simp)) (by have := HM.out.lt; simp at this ⊢; omega)
    have hbx : Blk w2 w.heap.size 84 [.pointer (some ⟨q, 0, none⟩)] := HO.out.blk (Blk.newA rfl) (by simpa using Ne.symm (HM.out.ne (Blk.newA rfl)))
    have x0 := hbx.cell (i := 0) rfl
    have ltx := hbx.lt
    clear hbx
    have HE2 := hide he2
    have d2 := hq2.cell (i := 2) rfl
    have ltq := hq2.lt
    have HM2 := hide hM2
    rw [hrun]
    clear hrun hq2 he2 hM2 ho2 c2 lt
    go_wp2_with (at_lookup; refine wpList_ptr_some _ rfl _ _ 162 rfl u32T pentT k32 Try.underlying162 (zpent _) b (m + 1) _ _ rfl HM2.out _ (.int .u32 a) rfl hk (w.heap.size + 1) (updF_same _ _ _) ?_)
    go_ret
    refine ⟨_, _, ?_, by rw [HE.out]; exact H0.out.add (by have := HBW.out; simp; omega) HG.out rfl (by simp) (by simp) HE2.out HO.out HM2.out, (HB0.out.mono (by simp)).trans HO.out⟩
    show Ending.returned _ = .returned (.pointer (some ⟨(if a = a then _ else _), 0, none⟩))
    rw [if_pos rfl]
    rfl

end Go.Proofs.Ytlnejlhdkmneeaa
