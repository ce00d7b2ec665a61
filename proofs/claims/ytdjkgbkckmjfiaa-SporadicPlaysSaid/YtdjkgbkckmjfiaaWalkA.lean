/- The program's sporadic server in memory; its small functions: what each call does to it. -/
import Derived.Test.YtdjkgbkckmjfiaaRows
import Derived.Test.YtdjkgbkckmjfiaaWords
import Derived.Test.YtdjkgbkckmjfiaaDraw
import Derived.Test.YtdjkgbkckmjfiaaModel
import Derived.WalkLawsBesides
import Derived.Deep.QuietTactic
import Derived.BigQuiet
import Derived.BigRegion
import Derived.IntWalk
import Derived.StillTailTactics
import Derived.Deep.RegionWith
import Derived.Deep.RegionHeld3
namespace Go.Proofs.Ytdjkgbkckmjfiaa
open Go.RowKit

abbrev I64 (n : Int) : Value := .int .i64 n

def bufCells (buf : List (Int × Int)) : List Value := buf.flatMap fun x => [I64 x.1, I64 x.2]

theorem bufCells_at (buf : List (Int × Int)) : ∀ (i : Nat) (x : Int × Int), buf[i]? = some x →
    (bufCells buf)[i * 2]? = some (I64 x.1) ∧ (bufCells buf)[i * 2 + 1]? = some (I64 x.2) := by
  induction buf with
  | nil => intro i x h; simp at h
  | cons y l ih =>
    intro i x h
    cases i with
    | zero => simp at h; subst h; exact ⟨rfl, rfl⟩
    | succ i =>
      simp only [List.getElem?_cons_succ] at h
      obtain ⟨h1, h2⟩ := ih i x h
      refine ⟨?_, ?_⟩
      · rw [show (i + 1) * 2 = i * 2 + 2 from by omega]; exact h1
      · rw [show (i + 1) * 2 + 1 = (i * 2 + 1) + 2 from by omega]; exact h2
theorem bufCells_set (buf : List (Int × Int)) : ∀ (i : Nat) (x : Int × Int), 
    ((bufCells buf).set (i * 2) (I64 x.1)).set (i * 2 + 1) (I64 x.2) = bufCells (buf.set i x) := by
  induction buf with
  | nil => intro i x; rfl
  | cons y l ih =>
    intro i x
    cases i with
    | zero => rfl
    | succ i =>
      have := ih i x
      rw [show (i + 1) * 2 = i * 2 + 2 from by omega]
      show I64 y.1 :: I64 y.2 :: _ = I64 y.1 :: I64 y.2 :: bufCells (l.set i x)
      rw [← this]; rfl

def srvCells (s : Srv) (g fr bs : Nat) : List Value :=
  [I64 s.p.B, I64 s.p.P, I64 s.p.N, I64 s.p.L, I64 s.left, .slice (some ⟨g, 0, none⟩) s.p.N s.p.N, I64 fr, I64 s.list.length, I64 s.first, I64 s.last,
   .bool s.run, I64 s.now, I64 s.ran, .func (.func 23) #[] #[], .func (.func 24) #[] #[.pointer (some ⟨bs, 0, none⟩)]]

structure SrvAt (w : World) (b g bs : Nat) (s : Srv) (fr : Nat) (buf : List (Int × Int)) : Prop where
  me : Blk w b 66 (srvCells s g fr bs)
  bufb : Blk w g 38 (bufCells buf)
  box : Blk w bs 25 [.pointer (some ⟨b, 0, none⟩)]
  ring : Ring s.p.N fr buf s.list

def SrvIs (w : World) (b g bs : Nat) (s : Srv) : Prop := ∃ fr buf, SrvAt w b g bs s fr buf

theorem at_ok (b o g : Nat) (N fr : Nat) (i : Int) (w : World)
    (c0 : w.cell? ⟨b, o, none⟩ = some (.slice (some ⟨g, 0, none⟩) N N)) (c1 : w.cell? ⟨b, o + 1, none⟩ = some (I64 fr))
    (h1 : fr < N) (h2 : 0 ≤ i) (h3 : i ≤ 32) (h4 : N ≤ 32) :
    Calls Try.prog 27 #[.pointer (some ⟨b, o, none⟩), I64 i] w
      fun e w' => e = .returned (.pointer (some ⟨g, (fr + i.toNat) % N * 2, none⟩)) ∧ ∃ n, w' = w.drewN n := by
  obtain ⟨i, rfl⟩ := Int.eq_ofNat_of_zero_le h2
  have hN0 : 0 < N := by omega
  have hm0 : (0 : Int) ≤ ((fr : Int) + i) % N := Int.emod_nonneg _ (by omega)
  have hm1 : ((fr : Int) + i) % N < N := Int.emod_lt_of_pos _ (by omega)
  go_enter Try.func27, Try.ntmps27
  go_wp2
  refine wp_region_text0 18 [] [] [] (fun _ => True) (by kernel_rfl) (by kernel_rfl) trivial ?_
  repeat (first | ((refine wpText_h rfl rfl ?_; apply Exists.intro; refine ⟨?_, ?_⟩; next => (go_simp; (try (go_bits; go_simp)); (first | done | with_reducible rfl | (rw [if_neg (by omega)]; (try (go_bits; go_simp)); (first | done | with_reducible rfl)) | (rw [if_pos (by omega)]; (try (go_bits; go_simp)); (first | done | with_reducible rfl))))); (try simp only [Act.put, List.setIfInBounds_toArray, List.set_cons_zero, List.set_cons_succ])) | ((refine wpText_p rfl rfl ?_; apply Exists.intro; refine ⟨?_, ?_⟩; next => (intro w'; go_simp; (try (go_bits; go_simp)); (first | done | with_reducible rfl | (rw [if_neg (by omega)]; (try (go_bits; go_simp)); (first | done | with_reducible rfl)) | (rw [if_pos (by omega)]; (try (go_bits; go_simp)); (first | done | with_reducible rfl))))); (try simp only [Act.put, List.setIfInBounds_toArray, List.set_cons_zero, List.set_cons_succ])) | ((refine wpText_y rfl rfl ?_; apply Exists.intro; refine ⟨?_, ?_⟩; next => (intro w' hS; (first | obtain ⟨_, rfl⟩ := hS | skip); go_simp; (try (go_bits; go_simp)); (first | done | with_reducible rfl | (rw [if_neg (by omega)]; (try (go_bits; go_simp)); (first | done | with_reducible rfl)) | (rw [if_pos (by omega)]; (try (go_bits; go_simp)); (first | done | with_reducible rfl))))); (try simp only [Act.put, List.setIfInBounds_toArray, List.set_cons_zero, List.set_cons_succ])) | (refine wpText_skip (by first | exact .inl rfl | exact .inr (.inl rfl) | exact .inr (.inr rfl)) rfl ?_; (try simp only [Act.put, List.setIfInBounds_toArray, List.set_cons_zero, List.set_cons_succ])))
  refine wpText_nil ?_
  go_wp2
  go_ret
  exact ⟨by simp, ⟨_, rfl⟩⟩

theorem push_ok (b g bs : Nat) (s : Srv) (x : Int × Int) (w : World) (hs : SrvIs w b g bs s) (hn : s.list.length < s.p.N) (hN : s.p.N ≤ 32) :
    Calls Try.prog 33 #[.pointer (some ⟨b, 5, none⟩), .agg #[I64 x.1, I64 x.2]] w
      fun e w' => e = .returned (.tuple #[]) ∧ SrvIs w' b g bs { s with list := s.list ++ [x] } ∧ Only [b, g] w w' := by
  obtain ⟨fr, buf, me, bufb, box, ring⟩ := hs
  have c5 := me.cell (i := 5) rfl
  have c6 := me.cell (i := 6) rfl
  have c7 := me.cell (i := 7) rfl
  have f7 := me.frozen 7
  have hlt := me.lt
  have hgl := bufb.lt
  have hne : b ≠ g := me.ne bufb (by decide)
  have hne' : g ≠ b := hne.symm
  have hm : (fr + s.list.length) % s.p.N < s.p.N := Nat.mod_lt _ (by omega)
  have hsz := ring.size
  obtain ⟨y, hy⟩ : ∃ y, buf[(fr + s.list.length) % s.p.N]? = some y := ⟨_, List.getElem?_eq_getElem (by omega)⟩
  have g0 := bufb.cell (bufCells_at buf _ y hy).1
  have g1 := bufb.cell (bufCells_at buf _ y hy).2
  have fg := bufb.frozen
  have hw : IntKind.i64.wrap ((s.list.length : Int) + 1) = s.list.length + 1 := IntWalk.i64_in _ (by omega)
  have hw0 : IntKind.i64.wrap (s.list.length : Int) = s.list.length := IntWalk.i64_in _ (by omega)
  have hfr := ring.from_
  clear hsz
  go_enter Try.func33, Try.ntmps33
  go_wp2
  generalize hW : (w.setCell { block := b, off := 7 } (Value.int IntKind.i64 (s.list.length + 1))).alloc (Obj.cells #[I64 x.fst, I64 x.snd] 38) = W
  have k5 : W.cell? ⟨b, 5, none⟩ = some (.slice (some ⟨g, 0, none⟩) s.p.N s.p.N) := by subst hW; go_simp
  have k6 : W.cell? ⟨b, 6, none⟩ = some (I64 fr) := by subst hW; go_simp
  have k7 : W.cell? ⟨b, 7, none⟩ = some (I64 (s.list.length + 1)) := by subst hW; go_simp
  have kx0 : W.cell? ⟨w.heap.size, 0, none⟩ = some (I64 x.1) := by subst hW; go_simp
  have kx1 : W.cell? ⟨w.heap.size, 1, none⟩ = some (I64 x.2) := by subst hW; go_simp
  have kg0 : W.cell? ⟨g, (fr + s.list.length) % s.p.N * 2, none⟩ = some (I64 y.1) := by subst hW; go_simp
  have kg1 : W.cell? ⟨g, (fr + s.list.length) % s.p.N * 2 + 1, none⟩ = some (I64 y.2) := by subst hW; go_simp
  have kf : ∀ i, W.frozen? ⟨g, i, none⟩ = false := by intro i; subst hW; go_simp
  have HW := hide hW
  have HA := hide (at_ok b 5 g s.p.N fr s.list.length W.drew k5 k6 hfr (by omega) (by omega) hN)
  clear hW c5 c6 c7 g0 g1 f7 fg
  refine wp_region_text 9 [6] [0] [7] (fun w' => ∃ n, w' = W.drewN n) (by kernel_rfl) (by kernel_rfl) ⟨1, rfl⟩ ?_
  simp only [List.take_succ_cons, List.take_zero, List.drop_succ_cons, List.drop_zero]
  repeat (first | ((refine wpText_h rfl rfl ?_; apply Exists.intro; refine ⟨?_, ?_⟩; next => (go_simp; (try (go_bits; go_simp)); (first | done | with_reducible rfl | (rw [if_neg (by omega)]; (try (go_bits; go_simp)); (first | done | with_reducible rfl)) | (rw [if_pos (by omega)]; (try (go_bits; go_simp)); (first | done | with_reducible rfl))))); (try simp only [Act.put, List.setIfInBounds_toArray, List.set_cons_zero, List.set_cons_succ])) | ((refine wpText_p rfl rfl ?_; apply Exists.intro; refine ⟨?_, ?_⟩; next => (intro w'; go_simp; (try (go_bits; go_simp)); (first | done | with_reducible rfl | (rw [if_neg (by omega)]; (try (go_bits; go_simp)); (first | done | with_reducible rfl)) | (rw [if_pos (by omega)]; (try (go_bits; go_simp)); (first | done | with_reducible rfl))))); (try simp only [Act.put, List.setIfInBounds_toArray, List.set_cons_zero, List.set_cons_succ])) | ((refine wpText_y rfl rfl ?_; apply Exists.intro; refine ⟨?_, ?_⟩; next => (intro w' hS; (first | obtain ⟨_, rfl⟩ := hS | skip); go_simp; (try (go_bits; go_simp)); (first | done | with_reducible rfl | (rw [if_neg (by omega)]; (try (go_bits; go_simp)); (first | done | with_reducible rfl)) | (rw [if_pos (by omega)]; (try (go_bits; go_simp)); (first | done | with_reducible rfl))))); (try simp only [Act.put, List.setIfInBounds_toArray, List.set_cons_zero, List.set_cons_succ])) | (refine wpText_skip (by first | exact .inl rfl | exact .inr (.inl rfl) | exact .inr (.inr rfl)) rfl ?_; (try simp only [Act.put, List.setIfInBounds_toArray, List.set_cons_zero, List.set_cons_succ])))
  refine wpText_e rfl rfl (fun K hK => ?_)
  go_wp2_with (go_at_call 27; refine HA.out.mono ?_; rintro e w' ⟨rfl, n, rfl⟩)
  refine hK _ _ ⟨1 + n, by simp⟩ ?_
  clear hK K
  repeat (first | ((refine wpText_h rfl rfl ?_; apply Exists.intro; refine ⟨?_, ?_⟩; next => (go_simp; (try (go_bits; go_simp)); (first | done | with_reducible rfl | (rw [if_neg (by omega)]; (try (go_bits; go_simp)); (first | done | with_reducible rfl)) | (rw [if_pos (by omega)]; (try (go_bits; go_simp)); (first | done | with_reducible rfl))))); (try simp only [Act.put, List.setIfInBounds_toArray, List.set_cons_zero, List.set_cons_succ])) | ((refine wpText_p rfl rfl ?_; apply Exists.intro; refine ⟨?_, ?_⟩; next => (intro w'; go_simp; (try (go_bits; go_simp)); (first | done | with_reducible rfl | (rw [if_neg (by omega)]; (try (go_bits; go_simp)); (first | done | with_reducible rfl)) | (rw [if_pos (by omega)]; (try (go_bits; go_simp)); (first | done | with_reducible rfl))))); (try simp only [Act.put, List.setIfInBounds_toArray, List.set_cons_zero, List.set_cons_succ])) | ((refine wpText_y rfl rfl ?_; apply Exists.intro; refine ⟨?_, ?_⟩; next => (intro w' hS; (first | obtain ⟨_, rfl⟩ := hS | skip); go_simp; (try (go_bits; go_simp)); (first | done | with_reducible rfl | (rw [if_neg (by omega)]; (try (go_bits; go_simp)); (first | done | with_reducible rfl)) | (rw [if_pos (by omega)]; (try (go_bits; go_simp)); (first | done | with_reducible rfl))))); (try simp only [Act.put, List.setIfInBounds_toArray, List.set_cons_zero, List.set_cons_succ])) | (refine wpText_skip (by first | exact .inl rfl | exact .inr (.inl rfl) | exact .inr (.inr rfl)) rfl ?_; (try simp only [Act.put, List.setIfInBounds_toArray, List.set_cons_zero, List.set_cons_succ])))
  refine wpText_nil ?_
  go_wp2
  refine NoX.normal ?_
  go_end0
  have m1 : Blk W b 66 (srvCells { s with list := s.list ++ [x] } g fr bs) := by rw [← HW.out]; simpa [srvCells] using (me.set 7 (I64 (s.list.length + 1))).alloc _
  have m2 : Blk W g 38 (bufCells buf) := by rw [← HW.out]; exact (bufb.far hne' _).alloc _
  have m3 : Blk W bs 25 [.pointer (some ⟨b, 0, none⟩)] := by rw [← HW.out]; exact (box.far (box.ne me (by decide)) _).alloc _
  have o1 : Only [b, g] w W := by rw [← HW.out]; exact ((Only.refl _ _).set (.inl (by simp)) _).alloc _
  refine ⟨rfl, ⟨fr, buf.set ((fr + s.list.length) % s.p.N) x, ((m1.drewN _).far hne _).far hne _, ?_, ((m3.drewN _).far (box.ne bufb (by decide)) _).far (box.ne bufb (by decide)) _, ring.push hn x⟩,
    ((o1.drewN _).set (.inl (by simp)) _).set (.inl (by simp)) _⟩
  rw [← bufCells_set]
  exact ((m2.drewN _).set _ _).set _ _

theorem pop_ok (b g bs : Nat) (s : Srv) (x : Int × Int) (l : List (Int × Int)) (w : World) (hs : SrvIs w b g bs s) (hl : s.list = x :: l) (hN : s.p.N ≤ 32) :
    Calls Try.prog 36 #[.pointer (some ⟨b, 5, none⟩)] w
      fun e w' => e = .returned (.agg #[I64 x.1, I64 x.2]) ∧ SrvIs w' b g bs { s with list := l } ∧ Only [b] w w' := by
  obtain ⟨fr, buf, me, bufb, box, ring⟩ := hs
  have c5 := me.cell (i := 5) rfl
  have c6 := me.cell (i := 6) rfl
  have c7 := me.cell (i := 7) rfl
  have f6 := me.frozen 6
  have f7 := me.frozen 7
  have hlt := me.lt
  have hgl := bufb.lt
  have hne : b ≠ g := me.ne bufb (by decide)
  have hne' : g ≠ b := hne.symm
  have hfr := ring.from_
  have hx : buf[fr % s.p.N]? = some x := by have := ring.at_ 0 (by rw [hl]; simp); rw [hl] at this; simpa using this
  have g0 := bufb.cell (bufCells_at buf _ x hx).1
  have g1 := bufb.cell (bufCells_at buf _ x hx).2
  have hlen : (s.list.length : Int) = l.length + 1 := by rw [hl]; simp
  have hll : l.length < 32 := by have := ring.len; rw [hl] at this; simp at this; omega
  have hN0 : 0 < s.p.N := by omega
  have hm0 : (0 : Int) ≤ ((fr : Int) + 1) % s.p.N := Int.emod_nonneg _ (by omega)
  have hm1 : ((fr : Int) + 1) % s.p.N < s.p.N := Int.emod_lt_of_pos _ (by omega)
  have HL := hide hl
  have HX := hide hx
  have HR := hide ring
  clear hl hx ring
  rw [hlen] at c7
  have HN := hide hlen
  clear hlen
  go_enter Try.func36, Try.ntmps36
  go_wp2_with fail
  refine (at_ok b 5 g s.p.N fr 0 _ (by go_simp) (by go_simp) hfr (by omega) (by omega) hN).mono ?_
  rintro e w1 ⟨rfl, n, rfl⟩
  go_wp2
  refine wp_region_text 20 [] [1, 17] [] (fun _ => True) (by kernel_rfl) (by kernel_rfl) trivial ?_
  simp only [List.take_succ_cons, List.take_zero, List.drop_succ_cons, List.drop_zero]
  repeat (first | ((refine wpText_h rfl rfl ?_; apply Exists.intro; refine ⟨?_, ?_⟩; next => (go_simp; (try (go_bits; go_simp)); (first | done | with_reducible rfl | (rw [if_neg (by omega)]; (try (go_bits; go_simp)); (first | done | with_reducible rfl)) | (rw [if_pos (by omega)]; (try (go_bits; go_simp)); (first | done | with_reducible rfl))))); (try simp only [Act.put, List.setIfInBounds_toArray, List.set_cons_zero, List.set_cons_succ])) | ((refine wpText_p rfl rfl ?_; apply Exists.intro; refine ⟨?_, ?_⟩; next => (intro w'; go_simp; (try (go_bits; go_simp)); (first | done | with_reducible rfl | (rw [if_neg (by omega)]; (try (go_bits; go_simp)); (first | done | with_reducible rfl)) | (rw [if_pos (by omega)]; (try (go_bits; go_simp)); (first | done | with_reducible rfl))))); (try simp only [Act.put, List.setIfInBounds_toArray, List.set_cons_zero, List.set_cons_succ])) | ((refine wpText_y rfl rfl ?_; apply Exists.intro; refine ⟨?_, ?_⟩; next => (intro w' hS; (first | obtain ⟨_, rfl⟩ := hS | skip); go_simp; (try (go_bits; go_simp)); (first | done | with_reducible rfl | (rw [if_neg (by omega)]; (try (go_bits; go_simp)); (first | done | with_reducible rfl)) | (rw [if_pos (by omega)]; (try (go_bits; go_simp)); (first | done | with_reducible rfl))))); (try simp only [Act.put, List.setIfInBounds_toArray, List.set_cons_zero, List.set_cons_succ])) | (refine wpText_skip (by first | exact .inl rfl | exact .inr (.inl rfl) | exact .inr (.inr rfl)) rfl ?_; (try simp only [Act.put, List.setIfInBounds_toArray, List.set_cons_zero, List.set_cons_succ])))
  refine wpText_nil ?_
  go_wp2
  refine NoX.normal ?_
  go_wp2
  refine bodyPost_ret (v := .agg #[I64 x.1, I64 x.2]) (by simp [results, Try.results36, go_sem]) rfl ⟨rfl, ⟨(fr + 1) % s.p.N, buf, ?_, ?_, ?_, ?_⟩, ?_⟩
  · apply Blk.to
    next => repeat (first | with_reducible exact me | (with_reducible refine Blk.newA ?_; simp; done) | with_reducible apply Blk.drew | with_reducible apply Blk.drewN | with_reducible apply Blk.alloc | with_reducible apply Blk.set | (with_reducible apply Blk.far'; next => (first | assumption | exact Ne.symm ‹_› | (dsimp only; omega))))
    simp [srvCells]
  · repeat (first | with_reducible exact bufb | (with_reducible refine Blk.newA ?_; simp; done) | with_reducible apply Blk.drew | with_reducible apply Blk.drewN | with_reducible apply Blk.alloc | with_reducible apply Blk.set | (with_reducible apply Blk.far'; next => (first | assumption | exact Ne.symm ‹_› | (dsimp only; omega))))
  · have hb := box.ne me (by decide)
    have hlb := box.lt
    repeat (first | with_reducible exact box | (with_reducible refine Blk.newA ?_; simp; done) | with_reducible apply Blk.drew | with_reducible apply Blk.drewN | with_reducible apply Blk.alloc | with_reducible apply Blk.set | (with_reducible apply Blk.far'; next => (first | assumption | exact Ne.symm ‹_› | (dsimp only; omega))))
  · have := HR.out
    rw [HL.out] at this
    exact this.pop
  · repeat (first | with_reducible exact Only.refl _ _ | with_reducible apply Only.drew | with_reducible apply Only.drewN | with_reducible apply Only.alloc | (with_reducible apply Only.set'; next => (first | (left; simp; done) | (right; dsimp only; omega) | (right; simp; omega))))

end Go.Proofs.Ytdjkgbkckmjfiaa
