/- The resolver: Learn, Lookup. -/
import Derived.Test.YtlnejlhdkmneeaaResB2
namespace Go.Proofs.Ytlnejlhdkmneeaa
open Go.RowKit

abbrev resTs : List TypeId := [resT, entT, pktT]

/-- What Learn leaves: entries, clock, error, the packets that waited. -/
def learnL (l : List Ent) (a hw now life clock : Int) : List Ent × Int × Int × List Pkt :=
  if timeC now clock ≠ 0 then (l, clock, timeC now clock, []) else if hw = 0 then (l, clock, 14, []) else (setE (entL l a) ⟨a, hw, now + life, 0, []⟩, now, 0, (inE l a).wt)

def LearnS (base q b m : Nat) (life : Int) (r : List Ent × Int × Int × List Pkt) (w : World) (e : Ending) (w' : World) : Prop :=
  ∃ v qs eb vb, e = .returned (.tuple #[v, I64 r.2.2.1]) ∧ offRow w' base pktT 8 v r.2.2.2.length (qs.flatMap Pkt.cells) ∧ PkLie w' r.2.2.2 qs ∧ ResAt base q b (m + 1) life r.2.1 r.1 eb vb w' ∧ OnlyM b resTs base w w'

theorem ResAt.more {base q b m m' : Nat} {life clock : Int} {l : List Ent} {eb : Int → Nat} {vb : Int → Value} {w : World} (h : ResAt base q b m life clock l eb vb w) (hm : m ≤ m') : ResAt base q b m' life clock l eb vb w :=
  ⟨h.me, h.map.mono hm, h.ents, h.inj, h.nodup, h.bq, h.bb, h.be⟩
/-- What turns of the resolver, as a frame. -/
theorem ResAt.frame {base q b m : Nat} {life clock : Int} {l : List Ent} {eb : Int → Nat} {vb : Int → Value} {w w' : World} {S : List Nat} (h : ResAt base q b m life clock l eb vb w) (ho : Only S w w') (hS : ∀ k ∈ S, k < w.heap.size → k = q ∨ k = b ∨ ∃ x ∈ l, k = eb x.a ∨ (vb x.a).ownBlock = some k) : OnlyM b resTs base w w' := by
  refine ⟨ho.os, ho.tape, ho.output, ho.size, fun k hk hb hE => ho.block k hk fun hm => ?_⟩
  have hk2 : base ≤ k ∧ HasT w k resTs := by
    rcases hS k hm hk with rfl | rfl | ⟨x, hx, rfl | h1⟩
    · exact ⟨h.bq, h.me.hasT (by simp)⟩
    · exact absurd rfl hb
    · exact ⟨h.be x hx, (h.ents x hx).me.hasT (by simp)⟩
    · obtain ⟨qs, h2, -⟩ := (h.ents x hx).row
      exact off_hasT h2 (by simp) k h1
  rcases hE with hE | hE
  · omega
  · exact hE hk2.2

theorem build_ent2 (hw ex : Int) : ∀ w : World, (Instr.build 173 #[(0, .int .u64 hw), (1, I64 ex)]).run Try.prog w = .ok (.agg #[.int .u64 hw, I64 ex, I64 0, .slice none 0 0]) w := fun _ => by kernel_rfl

set_option maxRecDepth 100000 in
set_option maxHeartbeats 4000000 in
theorem learn_ok (base q b m : Nat) (life clock a hw now : Int) (l : List Ent) (eb : Int → Nat) (vb : Int → Value) (w : World) (h : ResAt base q b m life clock l eb vb w) (ha : 0 ≤ a ∧ a < 4294967296) (hm : m ≤ 1000000) (hbw : base ≤ w.heap.size)
    (hlife : 0 ≤ life ∧ life ≤ 1099511627776) (hl : EntOk l a) :
    Calls Try.prog 44 #[.pointer (some ⟨q, 0, none⟩), .int .u32 a, .int .u64 hw, I64 now] w fun e w' => LearnS base q b m life (learnL l a hw now life clock) w e w' := by
  have H0 := hide h
  by_cases ht : timeC now clock = 0
  · by_cases hh : hw = 0
    · have hR : Hid (learnL l a hw now life clock = (l, clock, 14, [])) := hide (by unfold learnL; rw [if_neg (by simpa using ht), if_pos hh])
      have HT := hide ht
      clear h ht
      go_enter Try.func44, Try.ntmps44
      go_wp2_with fail
      refine (time_ok q life clock now _ _ H0.out.me).mono ?_
      rintro e w1 ⟨rfl, rfl⟩
      rw [HT.out]
      go_wp2
      go_ret2
      rw [hR.out]
      exact ⟨_, [], eb, vb, rfl, off_nil _ _ _ _, PkLie.nil _, H0.out.more (by omega), OnlyM.refl _⟩
    · have hR : Hid (learnL l a hw now life clock = (setE (entL l a) ⟨a, hw, now + life, 0, []⟩, now, 0, (inE l a).wt)) := hide (by unfold learnL; rw [if_neg (by simpa using ht), if_neg hh])
      have HT := hide ht
      obtain ⟨t1, t2, -⟩ := timeC_ok ht
      have c1 := h.me.frozen 1
      have d1 := h.me.cell (i := 1) rfl
      have ltq := h.me.lt
      have HBW := hide hbw
      have HL := hide hl
      have HA := hide ha
      clear h ht hbw hl ha
      go_enter Try.func44, Try.ntmps44
      go_wp2_with fail
      refine (time_ok q life clock now _ _ H0.out.me).mono ?_
      rintro e w1 ⟨rfl, rfl⟩
      rw [HT.out]
      go_wp2_with fail
      refine (entry_ok base q b m life now a l eb vb _ (H0.out.clockTo now) HA.out hm (by have := HBW.out; simp [World.setCell]; exact this) HL.out).mono ?_
      rintro e w2 ⟨eb2, vb2, rfl, h2, ho2⟩
      have hx := inE_mem l a
      have hE := h2.ents _ hx
      rw [inE_a] at hE
      have q0 := h2.me.cell (i := 0) rfl
      have q1 := h2.me.lt
      have e3 := hE.me.cell (i := 3) rfl
      have elt := hE.me.lt
      have hbd := build_ent2 hw (now + life)
      have HE := hide hE.me
      have HR2 := hide hE.row
      have H2 := hide h2
      have HO := hide ho2
      clear h2 ho2 hE hx c1 d1 ltq
      go_wp2_with (refine wpList_store_cells rfl 173 (.tmp 41) (.tmp 40) rfl (eb2 a) 0 rfl [.int .u64 hw, I64 (now + life), I64 0, .slice none 0 0] rfl 173 _ HE.out (by exact Nat.le_refl _) (by kernel_rfl) (by simp [Value.oneCell']) ?_; intro v1 hw3)
      go_ret2
      rw [hR.out]
      have hxa := inE_a l a
      have hxm := inE_mem l a
      obtain ⟨qs, hr1, hr2⟩ := HR2.out
      have hne := (H2.out.ne_q hxm).2.2.1
      rw [hxa] at hne
      have hput := H2.out.put (y := ⟨a, hw, now + life, 0, []⟩) hxm hxa.symm (v' := .slice none 0 0) (w' := v1) (by rw [hxa]; exact hw3.2.1.mono (by simp)) (by rw [hxa]; exact ⟨Blk.to hw3.1 (by rfl), [], off_nil _ _ _ _, PkLie.nil _⟩) (.inr (by simp [Value.ownBlock]))
      refine ⟨_, qs, _, _, rfl, off_only hr1 hw3.2.1 (fun k hk => by simp; rintro rfl; exact hne hk), hr2.sameOn (fun k cs hk => hw3.2.1.block k hk.lt (by simpa using hk.ne HE.out (by decide))), hput, ?_⟩
      refine ((H0.out.frame (S := [q]) ((Only.refl _ _).set (p := ⟨q, 1, none⟩) (.inl (by simp)) _) (by simp)).trans ((H0.out.clockTo now).frame HO.out (by simp))).trans (H2.out.frame hw3.2.1 (fun k hk _ => .inr (.inr ⟨_, hxm, .inl (by rw [hxa]; simpa using hk)⟩)))
  · have hR : Hid (learnL l a hw now life clock = (l, clock, timeC now clock, [])) := hide (by unfold learnL; rw [if_pos ht])
    have ht' : (timeC now clock != 0) = true := by simpa using ht
    clear h ht
    go_enter Try.func44, Try.ntmps44
    go_wp2_with fail
    refine (time_ok q life clock now _ _ H0.out.me).mono ?_
    rintro e w1 ⟨rfl, rfl⟩
    go_wp2
    go_ret2
    rw [hR.out]
    exact ⟨_, [], eb, vb, rfl, off_nil _ _ _ _, PkLie.nil _, H0.out.more (by omega), OnlyM.refl _⟩

/-- Lookup: the address's number, the error, the clock. -/
def lookL (l : List Ent) (a now clock : Int) : Int × Int × Int :=
  if timeC now clock ≠ 0 then (0, timeC now clock, clock) else if knownL l a now = 0 then (0, 2, clock) else (knownL l a now, 0, now)
def LookUpS (base q b m : Nat) (life : Int) (l : List Ent) (r : Int × Int × Int) (eb : Int → Nat) (vb : Int → Value) (w : World) (e : Ending) (w' : World) : Prop :=
  e = .returned (.tuple #[.int .u64 r.1, I64 r.2.1]) ∧ ResAt base q b m life r.2.2 l eb vb w' ∧ OnlyM b resTs base w w'
set_option maxRecDepth 100000 in
set_option maxHeartbeats 4000000 in
theorem rlookup_ok (base q b m : Nat) (life clock a now : Int) (l : List Ent) (eb : Int → Nat) (vb : Int → Value) (w : World) (h : ResAt base q b m life clock l eb vb w) (ha : 0 ≤ a ∧ a < 4294967296) :
    Calls Try.prog 46 #[.pointer (some ⟨q, 0, none⟩), .int .u32 a, I64 now] w fun e w' => LookUpS base q b m life l (lookL l a now clock) eb vb w e w' := by
  have H0 := hide h
  by_cases ht : timeC now clock = 0
  · by_cases hk : knownL l a now = 0
    · have hR : Hid (lookL l a now clock = (0, 2, clock)) := hide (by unfold lookL; rw [if_neg (by simpa using ht), if_pos hk])
      have HT := hide ht
      have HK := hide hk
      clear h ht hk
      go_enter Try.func46, Try.ntmps46
      go_wp2_with fail
      refine (time_ok q life clock now _ _ H0.out.me).mono ?_
      rintro e w1 ⟨rfl, rfl⟩
      rw [HT.out]
      go_wp2_with fail
      refine (known_ok base q b m life clock a now l eb vb _ H0.out ha).mono ?_
      rintro e w1 ⟨rfl, rfl⟩
      rw [HK.out]
      go_wp2
      go_ret2
      rw [hR.out]
      exact ⟨rfl, H0.out, OnlyM.refl _⟩
    · have hR : Hid (lookL l a now clock = (knownL l a now, 0, now)) := hide (by unfold lookL; rw [if_neg (by simpa using ht), if_neg hk])
      have HT := hide ht
      have hk' : (knownL l a now == 0) = false := by simpa using hk
      have c1 := h.me.frozen 1
      have d1 := h.me.cell (i := 1) rfl
      have ltq := h.me.lt
      clear h ht hk
      go_enter Try.func46, Try.ntmps46
      go_wp2_with fail
      refine (time_ok q life clock now _ _ H0.out.me).mono ?_
      rintro e w1 ⟨rfl, rfl⟩
      rw [HT.out]
      go_wp2_with fail
      refine (known_ok base q b m life clock a now l eb vb _ H0.out ha).mono ?_
      rintro e w1 ⟨rfl, rfl⟩
      go_wp2
      go_ret2
      rw [hR.out]
      exact ⟨rfl, H0.out.clockTo now, H0.out.frame (S := [q]) ((Only.refl _ _).set (p := ⟨q, 1, none⟩) (.inl (by simp)) _) (by simp)⟩
  · have hR : Hid (lookL l a now clock = (0, timeC now clock, clock)) := hide (by unfold lookL; rw [if_pos ht])
    have ht' : (timeC now clock != 0) = true := by simpa using ht
    clear h ht
    go_enter Try.func46, Try.ntmps46
    go_wp2_with fail
    refine (time_ok q life clock now _ _ H0.out.me).mono ?_
    rintro e w1 ⟨rfl, rfl⟩
    go_wp2
    go_ret2
    rw [hR.out]
    exact ⟨rfl, H0.out, OnlyM.refl _⟩

end Go.Proofs.Ytlnejlhdkmneeaa
