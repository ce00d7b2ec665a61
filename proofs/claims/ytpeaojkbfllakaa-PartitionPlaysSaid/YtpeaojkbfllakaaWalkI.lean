/- Check, of the program and of the reference. -/
import Derived.Test.YtpeaojkbfllakaaWalkH
namespace Go.Proofs.Ytpeaojkbfllakaa
open Go.RowKit

def badP (x : Int × Int) : Prop := x.1 < 0 ∨ 100 < x.1 ∨ x.2 < 0 ∨ 100 < x.2
open Classical in
noncomputable def chk (W P : Int) (l : List (Int × Int)) : Int :=
  if W < 1 ∨ 1000 < W ∨ P < 1 ∨ 8 < P then 34 else if l.length = 0 then 9 else if 8 < l.length then 18
  else if ∃ x ∈ l, badP x then 34 else if (l.map (·.1)).sum = 100 then 0 else 14

section
variable {W P : Int} {l : List (Int × Int)}
theorem chk_range (h : W < 1 ∨ 1000 < W ∨ P < 1 ∨ 8 < P) : chk W P l = 34 := by unfold chk; rw [if_pos h]
theorem chk_empty (h : ¬ (W < 1 ∨ 1000 < W ∨ P < 1 ∨ 8 < P)) (h0 : l.length = 0) : chk W P l = 9 := by unfold chk; rw [if_neg h, if_pos h0]
theorem chk_long (h : ¬ (W < 1 ∨ 1000 < W ∨ P < 1 ∨ 8 < P)) (h8 : 8 < l.length) : chk W P l = 18 := by unfold chk; rw [if_neg h, if_neg (by omega), if_pos h8]
theorem chk_bad (h : ¬ (W < 1 ∨ 1000 < W ∨ P < 1 ∨ 8 < P)) (h0 : ¬ l.length = 0) (h8 : l.length ≤ 8) {x : Int × Int} (hx : x ∈ l) (hb : badP x) : chk W P l = 34 := by
  unfold chk; rw [if_neg h, if_neg h0, if_neg (by omega), if_pos ⟨x, hx, hb⟩]
theorem chk_sum (h : ¬ (W < 1 ∨ 1000 < W ∨ P < 1 ∨ 8 < P)) (h0 : ¬ l.length = 0) (h8 : l.length ≤ 8) (hx : ∀ x ∈ l, ¬ badP x) : chk W P l = if (l.map (·.1)).sum = 100 then 0 else 14 := by
  unfold chk; rw [if_neg h, if_neg h0, if_neg (by omega), if_neg fun ⟨x, hm, hb⟩ => hx x hm hb]
end

/-- A slice of parts that lies below block B. -/
def PartsIn (w : World) (B : Nat) (A : Option Addr) (l : List (Int × Int)) : Prop :=
  ∀ k x, l[k]? = some x → ∃ b o, A = some ⟨b, o, none⟩ ∧ b < B ∧ w.cell? ⟨b, o + k * 2, none⟩ = some (I64 x.1) ∧ w.cell? ⟨b, o + k * 2 + 1, none⟩ = some (I64 x.2)
theorem Only.cellA {S : List Nat} {w w' : World} (h : Only S w w') {b o : Nat} {v : Value} (hc : w.cell? ⟨b, o, none⟩ = some v) (hn : b ∉ S) : w'.cell? ⟨b, o, none⟩ = some v := by
  rw [World.cell?_of_block (w := w) (h.block b (World.block_lt_of_cell? _ _ hc) hn)]; exact hc
theorem PartsIn.only {w w' : World} {B : Nat} {A : Option Addr} {l : List (Int × Int)} (h : PartsIn w B A l) (ho : Only [] w w') (_hB : B ≤ w.heap.size) : PartsIn w' B A l := by
  intro k x hx
  obtain ⟨b, o, hA, hl, h0, h1⟩ := h k x hx
  exact ⟨b, o, hA, hl, ho.cellA h0 (by simp), ho.cellA h1 (by simp)⟩

def ChkRel (w : World) (l : List (Int × Int)) (W P : Int) (A : Option Addr) (cap : Nat) (T : TypeId) (k : Nat) (s : Value) (wr : World) : Prop :=
  ∃ sm : Int, s = I64 sm ∧ 0 ≤ sm ∧ sm ≤ 100 * k ∧ sm = ((l.take k).map (·.1)).sum ∧ (∀ x ∈ l.take k, ¬ badP x) ∧ Only [] w wr ∧ Blk wr w.heap.size T [I64 W, I64 P, .slice A l.length cap]

set_option maxHeartbeats 4000000 in
theorem chk_ok (W P : Int) (A : Option Addr) (l : List (Int × Int)) (cap : Nat) (w : World) (B : Nat) (hA : PartsIn w B A l) (hB : B ≤ w.heap.size) (hl : l.length ≤ 9223372036854775807) :
    Calls Try.prog 18 #[.agg #[I64 W, I64 P, .slice A l.length cap]] w fun e w' => e = .returned (I64 (chk W P l)) ∧ Only [] w w' := by
  have HA := hide hA
  clear hA
  by_cases a1 : W < 1
  · have hR := hide (chk_range (l := l) (P := P) (.inl a1))
    go_enter Try.func18, Try.ntmps18
    go_wp2
    go_ret
    rw [hR.out]; exact ⟨rfl, (Only.refl _ _).alloc _⟩
  by_cases a2 : 1000 < W
  · have hR := hide (chk_range (l := l) (P := P) (.inr (.inl a2)))
    go_enter Try.func18, Try.ntmps18
    go_wp2
    go_ret
    rw [hR.out]; exact ⟨rfl, (Only.refl _ _).alloc _⟩
  by_cases a3 : P < 1
  · have hR := hide (chk_range (l := l) (W := W) (.inr (.inr (.inl a3))))
    go_enter Try.func18, Try.ntmps18
    go_wp2
    go_ret
    rw [hR.out]; exact ⟨rfl, (Only.refl _ _).alloc _⟩
  by_cases a4 : 8 < P
  · have hR := hide (chk_range (l := l) (W := W) (.inr (.inr (.inr a4))))
    go_enter Try.func18, Try.ntmps18
    go_wp2
    go_ret
    rw [hR.out]; exact ⟨rfl, (Only.refl _ _).alloc _⟩
  have hin : ¬ (W < 1 ∨ 1000 < W ∨ P < 1 ∨ 8 < P) := by omega
  by_cases a5 : l.length = 0
  · have hR := hide (chk_empty hin a5)
    rw [a5]
    clear hin
    go_enter Try.func18, Try.ntmps18
    go_wp2
    go_ret
    rw [hR.out]; exact ⟨rfl, (Only.refl _ _).alloc _⟩
  by_cases a6 : 8 < l.length
  · have hR := hide (chk_long hin a6)
    have hz : ((l.length : Int) == 0) = false := by simp; intro h; rw [h] at a6; simp at a6
    have hd : decide (8 < (l.length : Int)) = true := by simp; omega
    have hd' : decide (8 < l.length) = true := by simp; omega
    clear hin a5
    go_enter Try.func18, Try.ntmps18
    go_wp2
    go_ret
    rw [hR.out]; exact ⟨rfl, (Only.refl _ _).alloc _⟩
  have hz : ((l.length : Int) == 0) = false := by simp; intro h; rw [h] at a5; simp at a5
  have hl8 : l.length ≤ 8 := by omega
  have hin' : Hid (¬ (W < 1 ∨ 1000 < W ∨ P < 1 ∨ 8 < P)) := hide hin
  have h0' : Hid (¬ l.length = 0) := hide a5
  have hst : Only [] w (w.alloc (.cells #[I64 W, I64 P, .slice A l.length cap] 24)) := (Only.refl _ _).alloc _
  have hbx := Blk.new w 24 [I64 W, I64 P, .slice A l.length cap]
  have HST := hide hst
  have HBX := hide hbx
  clear hin a5 a6 hst hbx
  go_enter Try.func18, Try.ntmps18
  go_wp2
  go_loopw [3, 38] (fun s i wr => ∃ k : Nat, k ≤ l.length ∧ i = .int .i64 k ∧ ChkRel w l W P A cap 24 k s wr) (fun _ i _ => l.length - (intOf i).toNat)
  case atStart => exact ⟨0, Nat.zero_le _, rfl, 0, rfl, by omega, by omega, by simp, by simp, HST.out, HBX.out⟩
  case round =>
    obtain ⟨k, hk, rfl, sm, rfl, s0, s1, s2, s3, ho, hx⟩ := hrel
    have hsum : Hid (sm = ((l.take k).map (·.1)).sum) := hide s2
    have hall : Hid (∀ x ∈ l.take k, ¬ badP x) := hide s3
    have HO := hide ho
    have HX := hide hx
    have x2 := hx.cell (i := 2) rfl
    clear s2 s3 ho hx HST HBX
    rcases Nat.lt_or_ge k l.length with hlt | hge
    · obtain ⟨x, hxk⟩ : ∃ x, l[k]? = some x := ⟨_, List.getElem?_eq_getElem hlt⟩
      obtain ⟨ab, ao, rfl, hab, g0, g1⟩ := (HA.out.only HO.out hB) k x hxk
      have HXK := hide hxk
      have hnew := Blk.new wr 64 [I64 x.1, I64 x.2]
      have hwl := HO.out.size
      clear hxk
      by_cases b1 : x.1 < 0
      · have hR := hide (chk_bad hin'.out h0'.out hl8 (List.mem_of_getElem? HXK.out) (.inl b1))
        go_wp2
        go_ret
        rw [hR.out]; refine ⟨rfl, ?_⟩
        repeat (first | with_reducible exact HO.out | with_reducible apply Only.drew | with_reducible apply Only.drewN | with_reducible apply Only.alloc | (with_reducible apply Only.set'; next => (first | (left; simp; done) | (right; dsimp only; omega) | (right; simp; omega))))
      by_cases b2 : 100 < x.1
      · have hR := hide (chk_bad hin'.out h0'.out hl8 (List.mem_of_getElem? HXK.out) (.inr (.inl b2)))
        go_wp2
        go_ret
        rw [hR.out]; refine ⟨rfl, ?_⟩
        repeat (first | with_reducible exact HO.out | with_reducible apply Only.drew | with_reducible apply Only.drewN | with_reducible apply Only.alloc | (with_reducible apply Only.set'; next => (first | (left; simp; done) | (right; dsimp only; omega) | (right; simp; omega))))
      by_cases b3 : x.2 < 0
      · have hR := hide (chk_bad hin'.out h0'.out hl8 (List.mem_of_getElem? HXK.out) (.inr (.inr (.inl b3))))
        go_wp2
        go_ret
        rw [hR.out]; refine ⟨rfl, ?_⟩
        repeat (first | with_reducible exact HO.out | with_reducible apply Only.drew | with_reducible apply Only.drewN | with_reducible apply Only.alloc | (with_reducible apply Only.set'; next => (first | (left; simp; done) | (right; dsimp only; omega) | (right; simp; omega))))
      by_cases b4 : 100 < x.2
      · have hR := hide (chk_bad hin'.out h0'.out hl8 (List.mem_of_getElem? HXK.out) (.inr (.inr (.inr b4))))
        go_wp2
        go_ret
        rw [hR.out]; refine ⟨rfl, ?_⟩
        repeat (first | with_reducible exact HO.out | with_reducible apply Only.drew | with_reducible apply Only.drewN | with_reducible apply Only.alloc | (with_reducible apply Only.set'; next => (first | (left; simp; done) | (right; dsimp only; omega) | (right; simp; omega))))
      have hnb : ¬ badP x := by unfold badP; omega
      have hnext : Hid (sm + x.1 = ((l.take (k + 1)).map (·.1)).sum ∧ ∀ y ∈ l.take (k + 1), ¬ badP y) := hide (by
        rw [List.take_add_one, HXK.out]
        refine ⟨by rw [hsum.out]; simp, fun y hy => ?_⟩
        rcases List.mem_append.1 hy with hy | hy
        · exact hall.out y hy
        · simp at hy; subst hy; exact hnb)
      clear hnb
      go_wp2
      go_roundw
      case rel =>
        refine ⟨k + 1, by omega, by go_num, sm + x.1, rfl, by omega, by omega, hnext.out.1, hnext.out.2, ?_, ?_⟩
        · repeat (first | with_reducible exact HO.out | with_reducible apply Only.drew | with_reducible apply Only.drewN | with_reducible apply Only.alloc | (with_reducible apply Only.set'; next => (first | (left; simp; done) | (right; dsimp only; omega) | (right; simp; omega))))
        · have hlx := HX.out.lt
          repeat (first | with_reducible exact HX.out | (with_reducible refine Blk.newA ?_; simp; done) | with_reducible apply Blk.drew | with_reducible apply Blk.drewN | with_reducible apply Blk.alloc | with_reducible apply Blk.set | (with_reducible apply Blk.far'; next => (first | assumption | exact Ne.symm ‹_› | (dsimp only; omega))))
      case measure => simp [intOf]; omega
    · obtain rfl : k = l.length := by omega
      have hR := hide (chk_sum hin'.out h0'.out hl8 (by have := hall.out; rwa [List.take_length] at this))
      rw [List.take_length] at hsum
      rw [← hsum.out] at hR
      by_cases e : sm = 100
      · have hV : Hid ((if sm = 100 then (0 : Int) else 14) = 0) := hide (if_pos e)
        subst e
        go_wp2
        go_ret
        rw [hR.out]; exact ⟨rfl, HO.out⟩
      · have hV : Hid ((if sm = 100 then (0 : Int) else 14) = 14) := hide (if_neg e)
        have he : (sm == 100) = false := by simpa using e
        clear e
        go_wp2
        go_ret
        rw [hR.out, hV.out]; exact ⟨rfl, HO.out⟩

set_option maxHeartbeats 4000000 in
theorem rchk_ok (W P : Int) (A : Option Addr) (l : List (Int × Int)) (cap : Nat) (w : World) (B : Nat) (hA : PartsIn w B A l) (hB : B ≤ w.heap.size) (hl : l.length ≤ 9223372036854775807) :
    Calls Try.prog 19 #[.agg #[I64 W, I64 P, .slice A l.length cap]] w fun e w' => e = .returned (I64 (chk W P l)) ∧ Only [] w w' := by
  have HA := hide hA
  clear hA
  by_cases a1 : W < 1
  · have hR := hide (chk_range (l := l) (P := P) (.inl a1))
    go_enter Try.func19, Try.ntmps19
    go_wp2
    go_ret
    rw [hR.out]; exact ⟨rfl, (Only.refl _ _).alloc _⟩
  by_cases a2 : 1000 < W
  · have hR := hide (chk_range (l := l) (P := P) (.inr (.inl a2)))
    go_enter Try.func19, Try.ntmps19
    go_wp2
    go_ret
    rw [hR.out]; exact ⟨rfl, (Only.refl _ _).alloc _⟩
  by_cases a3 : P < 1
  · have hR := hide (chk_range (l := l) (W := W) (.inr (.inr (.inl a3))))
    go_enter Try.func19, Try.ntmps19
    go_wp2
    go_ret
    rw [hR.out]; exact ⟨rfl, (Only.refl _ _).alloc _⟩
  by_cases a4 : 8 < P
  · have hR := hide (chk_range (l := l) (W := W) (.inr (.inr (.inr a4))))
    go_enter Try.func19, Try.ntmps19
    go_wp2
    go_ret
    rw [hR.out]; exact ⟨rfl, (Only.refl _ _).alloc _⟩
  have hin : ¬ (W < 1 ∨ 1000 < W ∨ P < 1 ∨ 8 < P) := by omega
  by_cases a5 : l.length = 0
  · have hR := hide (chk_empty hin a5)
    rw [a5]
    clear hin
    go_enter Try.func19, Try.ntmps19
    go_wp2
    go_ret
    rw [hR.out]; exact ⟨rfl, (Only.refl _ _).alloc _⟩
  by_cases a6 : 8 < l.length
  · have hR := hide (chk_long hin a6)
    have hz : ((l.length : Int) == 0) = false := by simp; intro h; rw [h] at a6; simp at a6
    have hd : decide (8 < (l.length : Int)) = true := by simp; omega
    have hd' : decide (8 < l.length) = true := by simp; omega
    clear hin a5
    go_enter Try.func19, Try.ntmps19
    go_wp2
    go_ret
    rw [hR.out]; exact ⟨rfl, (Only.refl _ _).alloc _⟩
  have hz : ((l.length : Int) == 0) = false := by simp; intro h; rw [h] at a5; simp at a5
  have hl8 : l.length ≤ 8 := by omega
  have hin' : Hid (¬ (W < 1 ∨ 1000 < W ∨ P < 1 ∨ 8 < P)) := hide hin
  have h0' : Hid (¬ l.length = 0) := hide a5
  have hst : Only [] w (w.alloc (.cells #[I64 W, I64 P, .slice A l.length cap] 48)) := (Only.refl _ _).alloc _
  have hbx := Blk.new w 48 [I64 W, I64 P, .slice A l.length cap]
  have HST := hide hst
  have HBX := hide hbx
  clear hin a5 a6 hst hbx
  go_enter Try.func19, Try.ntmps19
  go_wp2
  go_loopw [3, 4] (fun s i wr => ∃ k : Nat, k ≤ l.length ∧ i = .int .i64 k ∧ ChkRel w l W P A cap 48 k s wr) (fun _ i _ => l.length - (intOf i).toNat)
  case atStart => exact ⟨0, Nat.zero_le _, rfl, 0, rfl, by omega, by omega, by simp, by simp, HST.out, HBX.out⟩
  case round =>
    obtain ⟨k, hk, rfl, sm, rfl, s0, s1, s2, s3, ho, hx⟩ := hrel
    have hsum : Hid (sm = ((l.take k).map (·.1)).sum) := hide s2
    have hall : Hid (∀ x ∈ l.take k, ¬ badP x) := hide s3
    have HO := hide ho
    have HX := hide hx
    have x2 := hx.cell (i := 2) rfl
    clear s2 s3 ho hx HST HBX
    rcases Nat.lt_or_ge k l.length with hlt | hge
    · obtain ⟨x, hxk⟩ : ∃ x, l[k]? = some x := ⟨_, List.getElem?_eq_getElem hlt⟩
      obtain ⟨ab, ao, rfl, hab, g0, g1⟩ := (HA.out.only HO.out hB) k x hxk
      have HXK := hide hxk
      have hnew := Blk.new wr 73 [I64 x.1, I64 x.2]
      have hwl := HO.out.size
      clear hxk
      by_cases b1 : x.1 < 0
      · have hR := hide (chk_bad hin'.out h0'.out hl8 (List.mem_of_getElem? HXK.out) (.inl b1))
        go_wp2
        go_ret
        rw [hR.out]; refine ⟨rfl, ?_⟩
        repeat (first | with_reducible exact HO.out | with_reducible apply Only.drew | with_reducible apply Only.drewN | with_reducible apply Only.alloc | (with_reducible apply Only.set'; next => (first | (left; simp; done) | (right; dsimp only; omega) | (right; simp; omega))))
      by_cases b2 : 100 < x.1
      · have hR := hide (chk_bad hin'.out h0'.out hl8 (List.mem_of_getElem? HXK.out) (.inr (.inl b2)))
        go_wp2
        go_ret
        rw [hR.out]; refine ⟨rfl, ?_⟩
        repeat (first | with_reducible exact HO.out | with_reducible apply Only.drew | with_reducible apply Only.drewN | with_reducible apply Only.alloc | (with_reducible apply Only.set'; next => (first | (left; simp; done) | (right; dsimp only; omega) | (right; simp; omega))))
      by_cases b3 : x.2 < 0
      · have hR := hide (chk_bad hin'.out h0'.out hl8 (List.mem_of_getElem? HXK.out) (.inr (.inr (.inl b3))))
        go_wp2
        go_ret
        rw [hR.out]; refine ⟨rfl, ?_⟩
        repeat (first | with_reducible exact HO.out | with_reducible apply Only.drew | with_reducible apply Only.drewN | with_reducible apply Only.alloc | (with_reducible apply Only.set'; next => (first | (left; simp; done) | (right; dsimp only; omega) | (right; simp; omega))))
      by_cases b4 : 100 < x.2
      · have hR := hide (chk_bad hin'.out h0'.out hl8 (List.mem_of_getElem? HXK.out) (.inr (.inr (.inr b4))))
        go_wp2
        go_ret
        rw [hR.out]; refine ⟨rfl, ?_⟩
        repeat (first | with_reducible exact HO.out | with_reducible apply Only.drew | with_reducible apply Only.drewN | with_reducible apply Only.alloc | (with_reducible apply Only.set'; next => (first | (left; simp; done) | (right; dsimp only; omega) | (right; simp; omega))))
      have hnb : ¬ badP x := by unfold badP; omega
      have hnext : Hid (sm + x.1 = ((l.take (k + 1)).map (·.1)).sum ∧ ∀ y ∈ l.take (k + 1), ¬ badP y) := hide (by
        rw [List.take_add_one, HXK.out]
        refine ⟨by rw [hsum.out]; simp, fun y hy => ?_⟩
        rcases List.mem_append.1 hy with hy | hy
        · exact hall.out y hy
        · simp at hy; subst hy; exact hnb)
      clear hnb
      go_wp2
      go_roundw
      case rel =>
        refine ⟨k + 1, by omega, by go_num, sm + x.1, rfl, by omega, by omega, hnext.out.1, hnext.out.2, ?_, ?_⟩
        · repeat (first | with_reducible exact HO.out | with_reducible apply Only.drew | with_reducible apply Only.drewN | with_reducible apply Only.alloc | (with_reducible apply Only.set'; next => (first | (left; simp; done) | (right; dsimp only; omega) | (right; simp; omega))))
        · have hlx := HX.out.lt
          repeat (first | with_reducible exact HX.out | (with_reducible refine Blk.newA ?_; simp; done) | with_reducible apply Blk.drew | with_reducible apply Blk.drewN | with_reducible apply Blk.alloc | with_reducible apply Blk.set | (with_reducible apply Blk.far'; next => (first | assumption | exact Ne.symm ‹_› | (dsimp only; omega))))
      case measure => simp [intOf]; omega
    · obtain rfl : k = l.length := by omega
      have hR := hide (chk_sum hin'.out h0'.out hl8 (by have := hall.out; rwa [List.take_length] at this))
      rw [List.take_length] at hsum
      rw [← hsum.out] at hR
      by_cases e : sm = 100
      · have hV : Hid ((if sm = 100 then (0 : Int) else 14) = 0) := hide (if_pos e)
        subst e
        go_wp2
        go_ret
        rw [hR.out]; exact ⟨rfl, HO.out⟩
      · have hV : Hid ((if sm = 100 then (0 : Int) else 14) = 14) := hide (if_neg e)
        have he : (sm == 100) = false := by simpa using e
        clear e
        go_wp2
        go_ret
        rw [hR.out, hV.out]; exact ⟨rfl, HO.out⟩

end Go.Proofs.Ytpeaojkbfllakaa
