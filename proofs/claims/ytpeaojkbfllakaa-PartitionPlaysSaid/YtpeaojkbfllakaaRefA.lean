/- The reference's meter in memory: ask, count, budget. -/
import Derived.Test.YtpeaojkbfllakaaWalkJ
import Derived.Test.YtpeaojkbfllakaaOnlyT
namespace Go.Proofs.Ytpeaojkbfllakaa
open Go.RowKit

def chgCells (l : List Chg) : List Value := l.flatMap fun x => [I64 x.t, I64 x.p, .bool x.c]
theorem chgCells_at (l : List Chg) : ∀ (i : Nat) (x : Chg), l[i]? = some x → (chgCells l)[i * 3]? = some (I64 x.t) ∧ (chgCells l)[i * 3 + 1]? = some (I64 x.p) ∧ (chgCells l)[i * 3 + 2]? = some (.bool x.c) := by
  induction l with
  | nil => intro i x h; simp at h
  | cons y l ih =>
    intro i x h
    cases i with
    | zero => simp at h; subst h; exact ⟨rfl, rfl, rfl⟩
    | succ i =>
      simp only [List.getElem?_cons_succ] at h
      obtain ⟨h1, h2, h3⟩ := ih i x h
      refine ⟨?_, ?_, ?_⟩
      · rw [show (i + 1) * 3 = i * 3 + 3 from by omega]; exact h1
      · rw [show (i + 1) * 3 + 1 = (i * 3 + 1) + 3 from by omega]; exact h2
      · rw [show (i + 1) * 3 + 2 = (i * 3 + 2) + 3 from by omega]; exact h3
theorem chgCells_len (l : List Chg) : (chgCells l).length = l.length * 3 := by
  induction l with
  | nil => rfl
  | cons x l ih => show (chgCells l).length + 1 + 1 + 1 = _; rw [ih]; simp; omega
theorem chgCells_append (l k : List Chg) : chgCells (l ++ k) = chgCells l ++ chgCells k := by simp [chgCells]

def refCells (m : Mtr) (pv v : Value) : List Value := [I64 m.cfg.W, I64 m.cfg.P, pv, v, I64 m.now]
def RParts (w : World) (rp : Nat) (l : List (Int × Int)) : Prop := ∃ cs, Blk w rp 73 cs ∧ ∀ i x, l[i]? = some x → cs[i * 2]? = some (I64 x.1) ∧ cs[i * 2 + 1]? = some (I64 x.2)

structure RAt (w : World) (base rb rp cap : Nat) (m : Mtr) (v : Value) : Prop where
  me : Blk w rb 72 (refCells m (.slice (some ⟨rp, 0, none⟩) m.cfg.parts.length cap) v)
  parts : RParts w rp m.cfg.parts
  own : w.ownsRow base 79 3 v m.l.length (chgCells m.l)
  ge : base ≤ rb

def RIs (w : World) (base rb rp : Nat) (m : Mtr) : Prop := ∃ cap v, RAt w base rb rp cap m v

theorem RParts.only {S : List Nat} {w w' : World} {pb : Nat} {l : List (Int × Int)} (h : RParts w pb l) (ho : Only S w w') (hn : pb ∉ S) : RParts w' pb l := by
  obtain ⟨cs, hb, hc⟩ := h
  exact ⟨cs, ho.blk hb hn, hc⟩
theorem RIs.only {w w' : World} {base rb rp : Nat} {m : Mtr} (h : RIs w base rb rp m) (ho : Only [] w w') : RIs w' base rb rp m := by
  obtain ⟨cap, v, me, parts, own, ge⟩ := h
  exact ⟨cap, v, ho.blk me (by simp), parts.only ho (by simp), own_nil own ho, ge⟩
/-- The types of the reference's blocks. -/
def refTs : List TypeId := [72, 79]
theorem RIs.lt {w : World} {base rb rp : Nat} {m : Mtr} (h : RIs w base rb rp m) : rb < w.heap.size := by obtain ⟨cap, v, me, _⟩ := h; exact me.lt
theorem RIs.setNow {w : World} {base rb rp : Nat} {m : Mtr} (h : RIs w base rb rp m) (now : Int) : RIs (w.setCell ⟨rb, 4, none⟩ (I64 now)) base rb rp (m.at_ now) ∧ OnlyT refTs base w (w.setCell ⟨rb, 4, none⟩ (I64 now)) := by
  obtain ⟨cap, v, me, parts, own, ge⟩ := h
  have ho : Only [rb] w (w.setCell ⟨rb, 4, none⟩ (I64 now)) := (Only.refl _ _).set (.inl (by simp)) _
  have hne : rp ≠ rb := by obtain ⟨cs, hb, _⟩ := parts; exact hb.ne me (by decide)
  refine ⟨⟨cap, v, me.set 4 _, parts.only ho (by simpa using hne), own_setCell own (own_ne_blk own me (by decide)) _, ge⟩, .of_only ho fun k hk _ => ?_⟩
  obtain rfl : k = rb := by simpa using hk
  exact ⟨ge, me.hasT (by simp [refTs])⟩
theorem RIs.facts {w : World} {base rb rp : Nat} {m : Mtr} (h : RIs w base rb rp m) : ∃ cap v, w.cell? ⟨rb, 0, none⟩ = some (I64 m.cfg.W) ∧ w.cell? ⟨rb, 1, none⟩ = some (I64 m.cfg.P) ∧
    w.cell? ⟨rb, 2, none⟩ = some (.slice (some ⟨rp, 0, none⟩) m.cfg.parts.length cap) ∧ w.cell? ⟨rb, 3, none⟩ = some v ∧ w.cell? ⟨rb, 4, none⟩ = some (I64 m.now) ∧ w.frozen? ⟨rb, 4, none⟩ = false ∧ (∃ A c, v = .slice A m.l.length c) ∧
    (∀ k x, m.l[k]? = some x → ∃ g c, v = .slice (some ⟨g, 0, none⟩) m.l.length c ∧ w.cell? ⟨g, k * 3, none⟩ = some (I64 x.t) ∧ w.cell? ⟨g, k * 3 + 1, none⟩ = some (I64 x.p) ∧ w.cell? ⟨g, k * 3 + 2, none⟩ = some (.bool x.c)) := by
  obtain ⟨cap, v, me, parts, own, ge⟩ := h
  refine ⟨cap, v, me.cell rfl, me.cell rfl, me.cell rfl, me.cell rfl, me.cell rfl, me.frozen 4, own_shape own, fun k x hx => ?_⟩
  have hk : k < m.l.length := (List.getElem?_eq_some_iff.1 hx).1
  rcases own.2 with ⟨_, h0⟩ | ⟨g, c, cur, rfl, _⟩
  · omega
  · obtain ⟨h1, h2, h3⟩ := chgCells_at m.l k x hx
    refine ⟨g, c, rfl, ?_, ?_, ?_⟩
    · rw [own.cellAt (k * 3) (by omega)]; exact h1
    · rw [own.cellAt (k * 3 + 1) (by omega)]; exact h2
    · rw [own.cellAt (k * 3 + 2) (by omega)]; exact h3
theorem RIs.share {w : World} {base rb rp : Nat} {m : Mtr} (h : RIs w base rb rp m) {p : Nat} (hp : p < m.cfg.parts.length) : w.cell? ⟨rp, p * 2, none⟩ = some (I64 (m.cfg.share p).1) ∧ w.cell? ⟨rp, p * 2 + 1, none⟩ = some (I64 (m.cfg.share p).2) := by
  obtain ⟨cap, v, _, ⟨cs, hb, hc⟩, _⟩ := h
  have hx : m.cfg.parts[p]? = some (m.cfg.share p) := by unfold Cfg.share; rw [List.getD_eq_getElem?_getD, List.getElem?_eq_getElem hp]; rfl
  exact ⟨hb.cell (hc p _ hx).1, hb.cell (hc p _ hx).2⟩

set_option maxHeartbeats 1000000 in
theorem rask_ok (base rb rp q c : Nat) (m : Mtr) (now : Int) (ps : List Int) (w : World) (h : RIs w base rb rp m) (hq : NumsAt w q ps) (hl : ps.length ≤ 10) :
    Calls Try.prog 35 #[.pointer (some ⟨rb, 0, none⟩), I64 now, .slice (some ⟨q, 0, none⟩) ps.length c] w
      fun e w' => e = .returned (I64 (m.err now ps)) ∧ ∃ n, w' = w.drewN n := by
  obtain ⟨cap, v, _, _, c2, _, c20, _⟩ := h.facts
  have HQ := hide hq
  clear h hq
  by_cases t0 : now < 0
  · have hR := hide (Mtr.err_time (m := m) (ps := ps) (.inl t0))
    go_enter Try.func35, Try.ntmps35
    go_wp2
    go_ret
    rw [hR.out]; exact ⟨rfl, 0, rfl⟩
  by_cases t1 : 1099511627776 < now
  · have hR := hide (Mtr.err_time (m := m) (ps := ps) (.inr t1))
    go_enter Try.func35, Try.ntmps35
    go_wp2
    go_ret
    rw [hR.out]; exact ⟨rfl, 0, rfl⟩
  go_enter Try.func35, Try.ntmps35
  go_wp2
  go_loopw [7] (fun i wr => ∃ k d : Nat, k ≤ ps.length ∧ i = .int .i64 k ∧ Hid (∀ p ∈ ps.take k, 0 ≤ p ∧ p < m.cfg.parts.length) ∧ wr = w.drewN d) (fun i _ => ps.length - (intOf i).toNat)
  case atStart => exact ⟨0, 0, Nat.zero_le _, rfl, hide (by simp), rfl⟩
  case round =>
    obtain ⟨k, d, hk, rfl, hall, rfl⟩ := hrel
    rcases Nat.lt_or_ge k ps.length with hlt | hge
    · obtain ⟨p, hp⟩ : ∃ p, ps[k]? = some p := ⟨_, List.getElem?_eq_getElem hlt⟩
      have hcell := HQ.out k p hp
      have HPk := hide hp
      clear hp
      by_cases p0 : p < 0
      · have hR := hide (Mtr.err_part (m := m) (now := now) (List.mem_of_getElem? HPk.out) (.inl p0))
        have hd0 : decide (p < 0) = true := by simp [p0]
        go_wp2
        refine wp_region_text0 18 [] [] [] (fun _ => True) (by kernel_rfl) (by kernel_rfl) trivial ?_
        repeat (first | ((refine wpText_h rfl rfl ?_; apply Exists.intro; refine ⟨?_, ?_⟩; next => (go_simp; (try (go_bits; go_simp)); (first | done | with_reducible rfl | (rw [if_neg (by omega)]; (try (go_bits; go_simp)); (first | done | with_reducible rfl)) | (rw [if_pos (by omega)]; (try (go_bits; go_simp)); (first | done | with_reducible rfl))))); (try simp only [Act.put, List.setIfInBounds_toArray, List.set_cons_zero, List.set_cons_succ])) | ((refine wpText_p rfl rfl ?_; apply Exists.intro; refine ⟨?_, ?_⟩; next => (intro w'; go_simp; (try (go_bits; go_simp)); (first | done | with_reducible rfl | (rw [if_neg (by omega)]; (try (go_bits; go_simp)); (first | done | with_reducible rfl)) | (rw [if_pos (by omega)]; (try (go_bits; go_simp)); (first | done | with_reducible rfl))))); (try simp only [Act.put, List.setIfInBounds_toArray, List.set_cons_zero, List.set_cons_succ])) | ((refine wpText_y rfl rfl ?_; apply Exists.intro; refine ⟨?_, ?_⟩; next => (intro w' hS; (first | obtain ⟨_, rfl⟩ := hS | skip); go_simp; (try (go_bits; go_simp)); (first | done | with_reducible rfl | (rw [if_neg (by omega)]; (try (go_bits; go_simp)); (first | done | with_reducible rfl)) | (rw [if_pos (by omega)]; (try (go_bits; go_simp)); (first | done | with_reducible rfl))))); (try simp only [Act.put, List.setIfInBounds_toArray, List.set_cons_zero, List.set_cons_succ])) | (refine wpText_skip (by first | exact .inl rfl | exact .inr (.inl rfl) | exact .inr (.inr rfl)) rfl ?_; (try simp only [Act.put, List.setIfInBounds_toArray, List.set_cons_zero, List.set_cons_succ])))
        refine wpText_nil ?_
        go_wp2
        go_ret
        rw [hR.out]; exact ⟨rfl, d + 1, by simp⟩
      have hd0 : decide (p < 0) = false := by simp; omega
      by_cases p1 : (m.cfg.parts.length : Int) ≤ p
      · have hR := hide (Mtr.err_part (m := m) (now := now) (List.mem_of_getElem? HPk.out) (.inr p1))
        have hd : decide ((m.cfg.parts.length : Int) ≤ p) = true := by simp [p1]
        go_wp2
        refine wp_region_text0 18 [] [] [] (fun _ => True) (by kernel_rfl) (by kernel_rfl) trivial ?_
        repeat (first | ((refine wpText_h rfl rfl ?_; apply Exists.intro; refine ⟨?_, ?_⟩; next => (go_simp; (try (go_bits; go_simp)); (first | done | with_reducible rfl | (rw [if_neg (by omega)]; (try (go_bits; go_simp)); (first | done | with_reducible rfl)) | (rw [if_pos (by omega)]; (try (go_bits; go_simp)); (first | done | with_reducible rfl))))); (try simp only [Act.put, List.setIfInBounds_toArray, List.set_cons_zero, List.set_cons_succ])) | ((refine wpText_p rfl rfl ?_; apply Exists.intro; refine ⟨?_, ?_⟩; next => (intro w'; go_simp; (try (go_bits; go_simp)); (first | done | with_reducible rfl | (rw [if_neg (by omega)]; (try (go_bits; go_simp)); (first | done | with_reducible rfl)) | (rw [if_pos (by omega)]; (try (go_bits; go_simp)); (first | done | with_reducible rfl))))); (try simp only [Act.put, List.setIfInBounds_toArray, List.set_cons_zero, List.set_cons_succ])) | ((refine wpText_y rfl rfl ?_; apply Exists.intro; refine ⟨?_, ?_⟩; next => (intro w' hS; (first | obtain ⟨_, rfl⟩ := hS | skip); go_simp; (try (go_bits; go_simp)); (first | done | with_reducible rfl | (rw [if_neg (by omega)]; (try (go_bits; go_simp)); (first | done | with_reducible rfl)) | (rw [if_pos (by omega)]; (try (go_bits; go_simp)); (first | done | with_reducible rfl))))); (try simp only [Act.put, List.setIfInBounds_toArray, List.set_cons_zero, List.set_cons_succ])) | (refine wpText_skip (by first | exact .inl rfl | exact .inr (.inl rfl) | exact .inr (.inr rfl)) rfl ?_; (try simp only [Act.put, List.setIfInBounds_toArray, List.set_cons_zero, List.set_cons_succ])))
        refine wpText_nil ?_
        go_wp2
        go_ret
        rw [hR.out]; exact ⟨rfl, d + 1, by simp⟩
      · have hd : decide ((m.cfg.parts.length : Int) ≤ p) = false := by simp; omega
        have hnext : Hid (∀ x ∈ ps.take (k + 1), 0 ≤ x ∧ x < m.cfg.parts.length) := hide fun x hx => by
          rw [List.take_add_one] at hx
          rcases List.mem_append.1 hx with hx | hx
          · exact hall.out x hx
          · rw [HPk.out] at hx; simp at hx; omega
        go_wp2
        refine wp_region_text0 18 [] [] [] (fun _ => True) (by kernel_rfl) (by kernel_rfl) trivial ?_
        repeat (first | ((refine wpText_h rfl rfl ?_; apply Exists.intro; refine ⟨?_, ?_⟩; next => (go_simp; (try (go_bits; go_simp)); (first | done | with_reducible rfl | (rw [if_neg (by omega)]; (try (go_bits; go_simp)); (first | done | with_reducible rfl)) | (rw [if_pos (by omega)]; (try (go_bits; go_simp)); (first | done | with_reducible rfl))))); (try simp only [Act.put, List.setIfInBounds_toArray, List.set_cons_zero, List.set_cons_succ])) | ((refine wpText_p rfl rfl ?_; apply Exists.intro; refine ⟨?_, ?_⟩; next => (intro w'; go_simp; (try (go_bits; go_simp)); (first | done | with_reducible rfl | (rw [if_neg (by omega)]; (try (go_bits; go_simp)); (first | done | with_reducible rfl)) | (rw [if_pos (by omega)]; (try (go_bits; go_simp)); (first | done | with_reducible rfl))))); (try simp only [Act.put, List.setIfInBounds_toArray, List.set_cons_zero, List.set_cons_succ])) | ((refine wpText_y rfl rfl ?_; apply Exists.intro; refine ⟨?_, ?_⟩; next => (intro w' hS; (first | obtain ⟨_, rfl⟩ := hS | skip); go_simp; (try (go_bits; go_simp)); (first | done | with_reducible rfl | (rw [if_neg (by omega)]; (try (go_bits; go_simp)); (first | done | with_reducible rfl)) | (rw [if_pos (by omega)]; (try (go_bits; go_simp)); (first | done | with_reducible rfl))))); (try simp only [Act.put, List.setIfInBounds_toArray, List.set_cons_zero, List.set_cons_succ])) | (refine wpText_skip (by first | exact .inl rfl | exact .inr (.inl rfl) | exact .inr (.inr rfl)) rfl ?_; (try simp only [Act.put, List.setIfInBounds_toArray, List.set_cons_zero, List.set_cons_succ])))
        refine wpText_nil ?_
        go_wp2
        go_roundw
        case rel => exact ⟨k + 1, _, by omega, by go_num, hnext, rfl⟩
        case measure => simp [intOf]; omega
    · obtain rfl : k = ps.length := by omega
      have hR := hide (Mtr.err_rest (m := m) (now := now) (ps := ps) (by omega) (by omega) (by have := hall.out; rwa [List.take_length] at this))
      by_cases t2 : now < m.now
      · have hd : decide (now < m.now) = true := by simp [t2]
        have hV := hide (if_pos t2 : (if now < m.now then (30 : Int) else 0) = 30)
        go_wp2
        go_ret
        rw [hR.out, hV.out]; exact ⟨rfl, _, rfl⟩
      · have hd : decide (now < m.now) = false := by simp; omega
        have hV := hide (if_neg t2 : (if now < m.now then (30 : Int) else 0) = 0)
        go_wp2
        go_ret
        rw [hR.out, hV.out]; exact ⟨rfl, _, rfl⟩

theorem rbud_ok (base rb rp : Nat) (m : Mtr) (pc : Int) (w : World) (h : RIs w base rb rp m) (hI : m.Inv) (h0 : 0 ≤ pc) (h1 : pc ≤ 100) :
    Calls Try.prog 33 #[.pointer (some ⟨rb, 0, none⟩), I64 pc] w
      fun e w' => e = .returned (I64 (m.cfg.bud pc)) ∧ ∃ n, w' = w.drewN n := by
  obtain ⟨cap, v, k0, k1, c2, _, c20, _⟩ := h.facts
  obtain ⟨a1, a2, a3, a4, a5, a6⟩ := bud_bd hI.cfg h0 h1
  have hR := hide (show m.cfg.bud pc = pc * m.cfg.W * m.cfg.P / 100 from rfl)
  clear h a5 a6
  go_enter Try.func33, Try.ntmps33
  go_wp2
  refine wp_region_text0 15 [] [] [] (fun _ => True) (by kernel_rfl) (by kernel_rfl) trivial ?_
  repeat (first | ((refine wpText_h rfl rfl ?_; apply Exists.intro; refine ⟨?_, ?_⟩; next => (go_simp; (try (go_bits; go_simp)); (first | done | with_reducible rfl | (rw [if_neg (by omega)]; (try (go_bits; go_simp)); (first | done | with_reducible rfl)) | (rw [if_pos (by omega)]; (try (go_bits; go_simp)); (first | done | with_reducible rfl))))); (try simp only [Act.put, List.setIfInBounds_toArray, List.set_cons_zero, List.set_cons_succ])) | ((refine wpText_p rfl rfl ?_; apply Exists.intro; refine ⟨?_, ?_⟩; next => (intro w'; go_simp; (try (go_bits; go_simp)); (first | done | with_reducible rfl | (rw [if_neg (by omega)]; (try (go_bits; go_simp)); (first | done | with_reducible rfl)) | (rw [if_pos (by omega)]; (try (go_bits; go_simp)); (first | done | with_reducible rfl))))); (try simp only [Act.put, List.setIfInBounds_toArray, List.set_cons_zero, List.set_cons_succ])) | ((refine wpText_y rfl rfl ?_; apply Exists.intro; refine ⟨?_, ?_⟩; next => (intro w' hS; (first | obtain ⟨_, rfl⟩ := hS | skip); go_simp; (try (go_bits; go_simp)); (first | done | with_reducible rfl | (rw [if_neg (by omega)]; (try (go_bits; go_simp)); (first | done | with_reducible rfl)) | (rw [if_pos (by omega)]; (try (go_bits; go_simp)); (first | done | with_reducible rfl))))); (try simp only [Act.put, List.setIfInBounds_toArray, List.set_cons_zero, List.set_cons_succ])) | (refine wpText_skip (by first | exact .inl rfl | exact .inr (.inl rfl) | exact .inr (.inr rfl)) rfl ?_; (try simp only [Act.put, List.setIfInBounds_toArray, List.set_cons_zero, List.set_cons_succ])))
  refine wpText_nil ?_
  go_wp2
  go_ret
  rw [hR.out]
  exact ⟨by first | rfl | simp, _, rfl⟩

/-- Which of the tests of count fails first, or none. -/
theorem count_ways (x : Chg) (p : Nat) (cr : Bool) (lo now : Int) :
    (((x.p : Int) == (p : Int)) = false ∧ inw p cr lo now x = false) ∨
    (((x.p : Int) == (p : Int)) = true ∧ decide (x.t < now) = false ∧ inw p cr lo now x = false) ∨
    (((x.p : Int) == (p : Int)) = true ∧ decide (x.t < now) = true ∧ decide (lo < x.t) = false ∧ inw p cr lo now x = false) ∨
    (((x.p : Int) == (p : Int)) = true ∧ decide (x.t < now) = true ∧ decide (lo < x.t) = true ∧ x.c = true ∧ inw p cr lo now x = true) ∨
    (((x.p : Int) == (p : Int)) = true ∧ decide (x.t < now) = true ∧ decide (lo < x.t) = true ∧ x.c = false ∧ inw p cr lo now x = !cr) := by
  by_cases a : x.p = p
  · by_cases b : x.t < now
    · by_cases d : lo < x.t
      · cases hc : x.c
        · right; right; right; right; simp [inw, a, b, d, hc]
        · right; right; right; left; simp [inw, a, b, d, hc]
      · right; right; left; simp [inw, a, b, d] <;> omega
    · right; left; simp [inw, a, b] <;> omega
  · left; simp [inw, a]; omega

def CountRel (w : World) (l : List Chg) (f : Chg → Bool) (k : Nat) (nv : Value) (wr : World) : Prop := ∃ s : Int, nv = I64 s ∧ 0 ≤ s ∧ s ≤ k ∧ s = cnt (l.take k) f ∧ Only [] w wr

theorem cnt_take {l : List Chg} {k : Nat} {x : Chg} (h : l[k]? = some x) (f : Chg → Bool) : cnt (l.take (k + 1)) f = cnt (l.take k) f + (if f x then 1 else 0) := by
  rw [List.take_add_one, h]
  show cnt (l.take k ++ [x]) f = _
  rw [cnt_append, cnt_cons, cnt_nil]; omega

set_option maxHeartbeats 4000000 in
theorem rcount_ok (base rb rp : Nat) (m : Mtr) (now : Int) (p : Nat) (cr : Bool) (w : World) (h : RIs w base rb rp m) (hI : m.Inv) (h0 : 0 ≤ now) (h1 : now ≤ 1099511627776) (hl : m.l.length ≤ 1000) :
    Calls Try.prog 36 #[.pointer (some ⟨rb, 0, none⟩), I64 now, I64 p, .bool cr] w
      fun e w' => e = .returned (I64 (cnt m.l (inw p cr (now - m.cfg.W) now))) ∧ Only [] w w' := by
  have HM := hide h
  have hW := hI.cfg.2.1
  have HI := hide hI
  clear h hI
  go_enter Try.func36, Try.ntmps36
  go_wp2
  go_loopw [9, 10] (fun nv i wr => ∃ k : Nat, k ≤ m.l.length ∧ i = .int .i64 k ∧ CountRel w m.l (inw p cr (now - m.cfg.W) now) k nv wr) (fun _ i _ => m.l.length - (intOf i).toNat)
  case atStart => exact ⟨0, Nat.zero_le _, rfl, 0, rfl, by omega, by omega, by simp, Only.refl _ _⟩
  case round =>
    obtain ⟨k, hk, rfl, s, rfl, s0, s1, hs, ho⟩ := hrel
    have HO := hide ho
    have HS := hide hs
    obtain ⟨cap, v, k0, k1, c2, k3, c4, _, ⟨A, vc, rfl⟩, hx⟩ := (HM.out.only ho).facts
    clear ho hs
    rcases Nat.lt_or_ge k m.l.length with hlt | hge
    · obtain ⟨x, hxk⟩ : ∃ x, m.l[k]? = some x := ⟨_, List.getElem?_eq_getElem hlt⟩
      obtain ⟨g, gc, hv, g0, g1, g2⟩ := hx k x hxk
      obtain ⟨rfl, rfl⟩ : A = some ⟨g, 0, none⟩ ∧ vc = gc := by injection hv with a b c; exact ⟨a, c⟩
      have hstep := hide (cnt_take hxk (inw p cr (now - m.cfg.W) now))
      have htb := HI.out.times x (List.mem_of_getElem? hxk)
      have hnow1 := HI.out.now1
      have hbl := HM.out.lt
      have hbo := HO.out.size
      have hbl2 : rb < wr.heap.size := by omega
      have hww := count_ways x p cr (now - m.cfg.W) now
      clear hx hxk hv
      rcases hww with ⟨d1, hf⟩ | ⟨d1, d2, hf⟩ | ⟨d1, d2, d3, hf⟩ | ⟨d1, d2, d3, d4, hf⟩ | ⟨d1, d2, d3, d4, hf⟩
      all_goals try rw [d4] at g2
      all_goals try clear d4
      all_goals
        have HF := hide hf
        clear hf
        have nb := fun b => Blk.new wr 79 [I64 x.t, I64 x.p, .bool b]
        have n0 := fun b => (nb b).cell (i := 0) rfl
        have n1 := fun b => (nb b).cell (i := 1) rfl
        have n2 := fun b => (nb b).cell (i := 2) rfl
        clear nb
        cases cr
        all_goals
          go_wp2
          refine wp_region_text0 30 [] [] [] (fun _ => True) (by kernel_rfl) (by kernel_rfl) trivial ?_
          repeat (first | ((refine wpText_h rfl rfl ?_; apply Exists.intro; refine ⟨?_, ?_⟩; next => (go_simp; (try (go_bits; go_simp)); (first | done | with_reducible rfl | (rw [if_neg (by omega)]; (try (go_bits; go_simp)); (first | done | with_reducible rfl)) | (rw [if_pos (by omega)]; (try (go_bits; go_simp)); (first | done | with_reducible rfl))))); (try simp only [Act.put, List.setIfInBounds_toArray, List.set_cons_zero, List.set_cons_succ])) | ((refine wpText_p rfl rfl ?_; apply Exists.intro; refine ⟨?_, ?_⟩; next => (intro w'; go_simp; (try (go_bits; go_simp)); (first | done | with_reducible rfl | (rw [if_neg (by omega)]; (try (go_bits; go_simp)); (first | done | with_reducible rfl)) | (rw [if_pos (by omega)]; (try (go_bits; go_simp)); (first | done | with_reducible rfl))))); (try simp only [Act.put, List.setIfInBounds_toArray, List.set_cons_zero, List.set_cons_succ])) | ((refine wpText_y rfl rfl ?_; apply Exists.intro; refine ⟨?_, ?_⟩; next => (intro w' hS; (first | obtain ⟨_, rfl⟩ := hS | skip); go_simp; (try (go_bits; go_simp)); (first | done | with_reducible rfl | (rw [if_neg (by omega)]; (try (go_bits; go_simp)); (first | done | with_reducible rfl)) | (rw [if_pos (by omega)]; (try (go_bits; go_simp)); (first | done | with_reducible rfl))))); (try simp only [Act.put, List.setIfInBounds_toArray, List.set_cons_zero, List.set_cons_succ])) | (refine wpText_skip (by first | exact .inl rfl | exact .inr (.inl rfl) | exact .inr (.inr rfl)) rfl ?_; (try simp only [Act.put, List.setIfInBounds_toArray, List.set_cons_zero, List.set_cons_succ])))
          refine wpText_nil ?_
          go_wp2
          go_roundw
          case rel =>
            refine ⟨k + 1, by omega, by go_num, _, rfl, by omega, by omega, ?_, ?_⟩
            · rw [hstep.out, HF.out, ← HS.out]; simp
            · repeat (first | with_reducible exact HO.out | with_reducible apply Only.drew | with_reducible apply Only.drewN | with_reducible apply Only.alloc | (with_reducible apply Only.set'; next => (first | (left; simp; done) | (right; dsimp only; omega) | (right; simp; omega))))
          case measure => simp [intOf]; omega
    · obtain rfl : k = m.l.length := by omega
      clear hx
      go_wp2
      go_ret
      rw [HS.out, List.take_length]
      exact ⟨rfl, HO.out⟩

end Go.Proofs.Ytpeaojkbfllakaa
