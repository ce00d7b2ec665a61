/- The reassembly: begin (a new collection; the oldest makes room). -/
import Derived.Test.YtlnejlhdkmneeaaAddE
namespace Go.Proofs.Ytlnejlhdkmneeaa
open Go.RowKit

abbrev kcells (q : Pkt) : List Value := [.int .u32 q.src, .int .u32 q.dst, I64 q.proto, I64 q.id]
abbrev colPT : TypeId := 151
theorem zcolP (w : World) : (zeroValue colPT).run Try.prog w = .ok (.pointer none) w := by kernel_rfl

theorem Blk.pkt8 {w : World} {g : Nat} {p : Pkt} (h : Blk w g pktT p.cells) : w.cell? ⟨g, 0, none⟩ = some (.int .u32 p.src) ∧ w.cell? ⟨g, 1, none⟩ = some (.int .u32 p.dst) ∧ w.cell? ⟨g, 2, none⟩ = some (I64 p.proto) ∧ w.cell? ⟨g, 3, none⟩ = some (I64 p.ttl) ∧
    w.cell? ⟨g, 4, none⟩ = some (I64 p.id) ∧ w.cell? ⟨g, 5, none⟩ = some (I64 p.off) ∧ w.cell? ⟨g, 6, none⟩ = some (.bool p.more) ∧ w.cell? ⟨g, 7, none⟩ = some (.slice p.A p.data.length p.cap) :=
  ⟨h.cell (i := 0) rfl, h.cell (i := 1) rfl, h.cell (i := 2) rfl, h.cell (i := 3) rfl, h.cell (i := 4) rfl, h.cell (i := 5) rfl, h.cell (i := 6) rfl, h.cell (i := 7) rfl⟩

/-- What the search for the oldest has found. -/
def MinInv (l : List PC) (p : Pkt) (left : Lit → Bool) (q : Pkt) : Prop :=
  PFit q ∧ ((q = p ∧ ∀ x ∈ l, left (kl x.2.h) = true) ∨ (∃ x ∈ l, q = x.2.h ∧ ∀ y ∈ l, left (kl y.2.h) = false → x.1.num ≤ y.1.num))

theorem nums_lt {l : List PC} (h : l.Pairwise fun x y => x.1.num < y.1.num) {x y : PC} (hx : x ∈ l) (hy : y ∈ l) (e : x.1.num = y.1.num) : x = y := by
  induction l with
  | nil => cases hx
  | cons a r ih =>
    obtain ⟨h1, h2⟩ := List.pairwise_cons.1 h
    rcases List.mem_cons.1 hx with rfl | hx' <;> rcases List.mem_cons.1 hy with rfl | hy'
    · rfl
    · have := h1 y hy'; omega
    · have := h1 x hx'; omega
    · exact ih h2 hx' hy'
theorem keys_eq {l : List PC} (h : l.Pairwise fun x y => kl x.2.h ≠ kl y.2.h) {x y : PC} (hx : x ∈ l) (hy : y ∈ l) (e : kl x.2.h = kl y.2.h) : x = y := by
  induction l with
  | nil => cases hx
  | cons a r ih =>
    obtain ⟨h1, h2⟩ := List.pairwise_cons.1 h
    rcases List.mem_cons.1 hx with rfl | hx' <;> rcases List.mem_cons.1 hy with rfl | hy'
    · rfl
    · exact absurd e (h1 y hy')
    · exact absurd e.symm (h1 x hx')
    · exact ih h2 hx' hy'

theorem fL_head {x : PC} {r : List PC} (h : (x :: r).Pairwise fun x y => kl x.2.h ≠ kl y.2.h) : updF (fL (x :: r)) (kl x.2.h) none = fL r := by
  funext j
  by_cases hj : j = kl x.2.h
  · subst hj
    rw [updF_same, fL_none (fun y hy => ((List.pairwise_cons.1 h).1 y hy).symm)]
  · rw [updF_other _ _ hj]
    simp only [fL]
    rw [if_neg (Ne.symm hj)]
theorem RzAt.offk {base r b M : Nat} {w w' : World} {num last : Int} {l : List PC} (h : RzAt base r b M w num last l) {k : Nat} {cs : List Value} (hk : Blk w k keyT cs) (ho : Only [k] w w') : RzAt base r b M w' num last l :=
  h.only ho (by simpa using h.me.ne hk (by decide)) (by simpa using h.mp.ne hk) (fun j hj => by
    obtain ⟨x, hx, hj⟩ := mem_feet.1 hj
    obtain ⟨t, cs', hb, -, -, h3⟩ := (h.cols x hx).kind hj
    simpa using hb.ne hk h3)
theorem RzAt.offr {base r b M R m s cnt : Nat} {w w' : World} {num last : Int} {l : List PC} {f : Lit → Option Nat} {left : Lit → Bool} (h : RzAt base r b M w num last l) (hg : PtrRange w keyT b R m s f left cnt) (ho : Only [R] w w') : RzAt base r b M w' num last l :=
  h.only ho (by simpa using (hg.ne_blk h.me).symm) (by simpa using hg.ne.symm) (fun j hj => by
    obtain ⟨x, hx, hj⟩ := mem_feet.1 hj
    obtain ⟨t, cs', hb, -, -, h3⟩ := (h.cols x hx).kind hj
    simpa using (hg.ne_blk hb).symm)
theorem MinInv.first {l : List PC} {p : Pkt} {left : Lit → Bool} {x : PC} (hk : l.Pairwise fun x y => kl x.2.h ≠ kl y.2.h) (hx : x ∈ l) (hf : PFit x.2.h) (h : ∀ y ∈ l, left (kl y.2.h) = true) : MinInv l p (fun z => left z && !z.sameKey (kl x.2.h)) x.2.h :=
  ⟨hf, .inr ⟨x, hx, rfl, fun y hy e => by
    simp only [h y hy, Bool.true_and] at e
    have e2 : (kl y.2.h).sameKey (kl x.2.h) = true := by simpa using e
    rw [keys_eq hk hy hx (WideAt.sameKey_eq e2)]
    exact Int.le_refl _⟩⟩
theorem MinInv.next {l : List PC} {p : Pkt} {left : Lit → Bool} {x x0 z : PC} (hk : l.Pairwise fun x y => kl x.2.h ≠ kl y.2.h) (hx : x ∈ l) (hz : z ∈ l) (hf : PFit z.2.h) (h : ∀ y ∈ l, left (kl y.2.h) = false → x0.1.num ≤ y.1.num) (h1 : z.1.num ≤ x0.1.num) (h2 : z.1.num ≤ x.1.num) :
    MinInv l p (fun z => left z && !z.sameKey (kl x.2.h)) z.2.h :=
  ⟨hf, .inr ⟨z, hz, rfl, fun y hy e => by
    by_cases e1 : left (kl y.2.h) = false
    · have := h y hy e1; omega
    · have e1 : left (kl y.2.h) = true := by simpa using e1
      simp only [e1, Bool.true_and] at e
      have e2 : (kl y.2.h).sameKey (kl x.2.h) = true := by simpa using e
      rw [keys_eq hk hy hx (WideAt.sameKey_eq e2)]
      exact h2⟩⟩

/-- The oldest has been taken away, where the list is full. -/
def roomL (l : List PC) : List PC := if 16 ≤ l.length then l.drop 1 else l
def RoomAt (r b M : Nat) (num last : Int) (l : List PC) (box : Nat) (p : Pkt) (w wx : World) : Prop :=
  Blk wx r rasT [.map (some b), I64 num, I64 last] ∧ PtrMap wx keyT b M (roomL l).length (fL (roomL l)) ∧ Blk wx box pktT p.cells ∧ Only [b] w wx

theorem room_sub (l : List PC) : (roomL l).Sublist l := by
  unfold roomL
  split
  · exact List.drop_sublist _ _
  · exact List.Sublist.refl _
def newC (e1 : Nat) (num now : Int) (p : Pkt) : PC := (⟨e1, num + 1, p.A, p.data.length, p.cap, .slice none 0 0, .slice none 0 0⟩, ⟨p, now, [], [], -1, 0⟩)
/-- What begin answers. -/
def BegS (base r b M : Nat) (w : World) (num last now : Int) (l : List PC) (p : Pkt) (e : Ending) (w' : World) : Prop :=
  ∃ e1, e = .returned (.pointer (some ⟨e1, 0, none⟩)) ∧ w.heap.size ≤ e1 ∧ Only [r, b] w w' ∧ RzAt base r b (M + 1) w' (num + 1) last (roomL l ++ [newC e1 num now p])
theorem build_col (now num : Int) (p : Pkt) : ∀ W : World, (Instr.build colT #[(0, I64 now), (1, I64 num), (2, .agg #[.int .u32 p.src, .int .u32 p.dst, I64 p.proto, I64 p.ttl, I64 p.id, I64 p.off, .bool p.more, .slice p.A p.data.length p.cap]), (5, I64 (-1))]).run Try.prog W =
    .ok (.agg #[I64 now, I64 num, .int .u32 p.src, .int .u32 p.dst, I64 p.proto, I64 p.ttl, I64 p.id, I64 p.off, .bool p.more, .slice p.A p.data.length p.cap, .slice none 0 0, .slice none 0 0, I64 (-1), I64 0]) W := fun _ => by kernel_rfl
theorem beg_end {base r b M : Nat} {w w' : World} {num last now : Int} {l : List PC} {p : Pkt} {e1 : Nat} (h : RzAt base r b M w num last l) (hf : PFit p) (hnew : ∀ x ∈ l, kl x.2.h ≠ kl p) (hnow : 0 ≤ now ∧ now ≤ 1099511627776)
    (he : w.heap.size ≤ e1) (ho : Only [r, b] w w') (hme : Blk w' r rasT [.map (some b), I64 (num + 1), I64 last]) (hm : PtrMap w' keyT b (M + 1) ((roomL l).length + 1) (updF (fL (roomL l)) (kl p) (some e1)))
    (hn : Blk w' e1 colT [I64 now, I64 (num + 1), .int .u32 p.src, .int .u32 p.dst, I64 p.proto, I64 p.ttl, I64 p.id, I64 p.off, .bool p.more, .slice p.A p.data.length p.cap, .slice none 0 0, .slice none 0 0, I64 (-1), I64 0]) : RzAt base r b (M + 1) w' (num + 1) last (roomL l ++ [newC e1 num now p]) := by
  have hs := (room_sub l).subset
  refine ⟨hme, ?_, ?_, ?_, ?_, ?_, ?_, ?_, h.rb, h.bb⟩
  · rw [List.length_append, fL_snoc (fun y hy => hnew y (hs hy))]
    exact hm
  · intro x hx
    rcases List.mem_append.1 hx with h1 | h1
    · exact (h.cols x (hs h1)).only ho fun k hk => by have := h.far (hs h1) hk; simp [this]
    · obtain rfl : x = newC e1 num now p := by simpa using h1
      exact ⟨hn, off_nil _ _ _ _, off_nil _ _ _ _, rfl, Nat.le_trans h.rb (Nat.le_trans (Nat.le_of_lt h.me.lt) he)⟩
  · refine List.pairwise_append.2 ⟨h.apart.sublist (room_sub l), List.pairwise_singleton _ _, ?_⟩
    intro x hx y hy k hk hk2
    obtain rfl : y = newC e1 num now p := by simpa using hy
    have h1 := (h.cols x (hs hx)).lt hk
    have h2 : k = e1 := by rcases mem_foot.1 hk2 with h | h | h <;> simp [newC, Value.ownBlock] at h; exact h
    omega
  · refine List.pairwise_append.2 ⟨h.keys.sublist (room_sub l), List.pairwise_singleton _ _, ?_⟩
    intro x hx y hy
    obtain rfl : y = newC e1 num now p := by simpa using hy
    exact hnew x (hs hx)
  · refine List.pairwise_append.2 ⟨h.nums.sublist (room_sub l), List.pairwise_singleton _ _, ?_⟩
    intro x hx y hy
    obtain rfl : y = newC e1 num now p := by simpa using hy
    have := h.top x (hs hx)
    show x.1.num < num + 1
    omega
  · intro x hx
    rcases List.mem_append.1 hx with h1 | h1
    · have := h.top x (hs h1); omega
    · obtain rfl : x = newC e1 num now p := by simpa using h1
      exact Int.le_refl _
  · intro x hx
    rcases List.mem_append.1 hx with h1 | h1
    · exact h.fit x (hs h1)
    · obtain rfl : x = newC e1 num now p := by simpa using h1
      exact ⟨hf, by simp [newC], by simp [newC], hnow⟩

set_option maxRecDepth 100000 in
set_option maxHeartbeats 16000000 in
theorem begin_ok (base r b M : Nat) (num last now : Int) (l : List PC) (p : Pkt) (w : World) (h : RzAt base r b M w num last l) (hf : PFit p) (hnew : ∀ x ∈ l, kl x.2.h ≠ kl p) (hnum : 0 ≤ num ∧ num ≤ 1099511627776) (hM : M ≤ 1099511627776) (hll : l.length ≤ 16) (hnow : 0 ≤ now ∧ now ≤ 1099511627776) :
    Calls Try.prog 76 #[.pointer (some ⟨r, 0, none⟩), p.V, I64 now] w fun e w' => BegS base r b M w num last now l p e w' := by
  have hO : Only [] w (w.alloc (.cells p.cells.toArray pktT)) := (Only.refl [] w).alloc _
  have hX : Blk (w.alloc (.cells p.cells.toArray pktT)) w.heap.size pktT p.cells := Blk.newA (by simp)
  have hR := h.only hO (by simp) (by simp) (by simp)
  have r0 := h.me.cell (i := 0) rfl
  have r1 := h.me.cell (i := 1) rfl
  have ltr := h.me.lt
  have hlen := hR.mp.len (t := rzmT) Try.underlying142 3
  obtain ⟨W1, hW1⟩ : ∃ W, W = w.alloc (.cells p.cells.toArray pktT) := ⟨_, rfl⟩
  rw [← hW1] at hO hX hR hlen
  have H1 := hide (show _ ∧ _ ∧ _ from ⟨hO, hX, hR⟩)
  have HW1 := hide (show w.alloc (.cells #[.int .u32 p.src, .int .u32 p.dst, I64 p.proto, I64 p.ttl, I64 p.id, I64 p.off, .bool p.more, .slice p.A p.data.length p.cap] pktT) = W1 from hW1.symm)
  have HF := hide hf
  have HNW := hide hnew
  have r0' := hR.me.cell (i := 0) rfl
  have ltr' := hR.me.lt
  clear hO hX hR hf hnew hW1 r0 ltr
  show Calls Try.prog 76 #[.pointer (some ⟨r, 0, none⟩), .agg #[.int .u32 p.src, .int .u32 p.dst, I64 p.proto, I64 p.ttl, I64 p.id, I64 p.off, .bool p.more, .slice p.A p.data.length p.cap], I64 now] w _
  go_enter Try.func76, Try.ntmps76
  go_upto_region 1 with (fail)
  rw [HW1.out]
  go_upto_if 17 with (fail)
  go_cut [] (fun wx => RoomAt r b M num last l w.heap.size p W1 wx)
  case first =>
    by_cases h16 : 16 ≤ l.length
    · have g16 : (16 : Int) ≤ (l.length : Int) := by omega
      obtain ⟨f0, f1, f2, f3, f4, f5, f6, f7⟩ := H1.out.2.1.pkt8
      have ltx := H1.out.2.1.lt
      go_wp2_with fail
      refine (key_ok p _).mono ?_
      rintro e w1 ⟨rfl, ho1⟩
      have HA := hide (show Only [] W1 (w1.alloc (.cells zsK.toArray keyT)) ∧ Blk (w1.alloc (.cells zsK.toArray keyT)) w1.heap.size keyT zsK from ⟨ho1.alloc _, Blk.newA (by simp)⟩)
      clear f0 f1 f2 f3 f4 f5 f6 f7 r0' ltr' hlen
      go_upto_region 3 with (refine wpList_store_cells rfl keyT (.tmp 7) (.tmp 19) rfl w1.heap.size 0 rfl (kcells p) rfl keyT zsK HA.out.2 (by exact Nat.le_refl _) (by kernel_rfl) (by simp [Value.oneCell']) ?_; intro v1 hw3)
      have h1b : Blk v1 w1.heap.size keyT (kcells p) := Blk.to hw3.1 (by rfl)
      have ho2 : Only [] W1 v1 := HA.out.1.trans' hw3.2.1 (by intro i hi hlt; have := ho1.size; simp at hi; omega)
      obtain ⟨k7, hk7⟩ : ∃ k, k = w1.heap.size := ⟨_, rfl⟩
      rw [← hk7] at h1b
      have h7 : W1.heap.size ≤ k7 := by rw [hk7]; exact ho1.size
      rw [← hk7]
      have hR2 := H1.out.2.2.only ho2 (by simp) (by simp) (by simp)
      have hX2 := ho2.blk H1.out.2.1 (by simp)
      have H2 := hide (show _ ∧ _ ∧ _ ∧ _ ∧ _ from ⟨ho2, h1b, h7, hR2, hX2⟩)
      have r0 := hR2.me.cell (i := 0) rfl
      have ltr := hR2.me.lt
      clear hw3 h1b ho2 ho1 HA hk7 hR2 hX2 h7
      go_wp2_with (refine wpList_ptr_range _ rfl (.tmp 23) rzmT rfl keyT colPT kKey Try.underlying142 b M l.length (fL l) rfl H2.out.2.2.2.1.mp ?_; intro w0 left hrg hleft ho0 hs0)
      obtain ⟨R, hR0⟩ : ∃ R, R = v1.heap.size := ⟨_, rfl⟩
      rw [← hR0] at hrg hs0 ⊢
      have H3 := hide (show MinInv l p left p from ⟨HF.out, .inl ⟨rfl, fun x hx => by rw [hleft _ ⟨_, kl_ok (h.fit x hx).h⟩, fL_mem h.keys hx]; rfl⟩⟩)
      have H4 := hide (show _ ∧ _ ∧ _ ∧ _ from ⟨ho0.blk H2.out.2.1 (by simp), H2.out.1.trans ho0, H2.out.2.2.2.1.only ho0 (by simp) (by simp) (by simp), ho0.blk H2.out.2.2.2.2 (by simp)⟩)
      have H5 := hide (show W1.heap.size ≤ k7 ∧ k7 < R ∧ W1.heap.size ≤ R from ⟨H2.out.2.2.1, by rw [hR0]; exact H2.out.2.1.lt, by rw [hR0]; exact H2.out.1.size⟩)
      clear hleft ho0 hs0 hR0 r0 ltr
      go_frame
      go_loopw [25] (fun _ wr => ∃ left cnt q, PtrRange wr keyT b R M l.length (fL l) left cnt ∧ Hid (MinInv l p left q) ∧ Hid (Blk wr k7 keyT (kcells q) ∧ Only [] W1 wr ∧ RzAt base r b M wr num last l ∧ Blk wr w.heap.size pktT p.cells)) (fun _ wr => wr.rangeLeft b R)
      case atStart => exact ⟨left, _, p, hrg, H3, H4⟩
      case round =>
        obtain ⟨left, cnt, q, hrg, HM, HW⟩ := hrel
        go_wp2_with (refine wpList_ptr_next _ rfl (.tmp 24) rfl keyT kKey b R M l.length (fL l) left cnt rfl hrg ?_ ?_)
        · intro hc0 hl0
          obtain ⟨h7, hoW, hRW, hXW⟩ := HW.out
          obtain ⟨hqf, hq⟩ := HM.out
          rcases hq with ⟨hqp, hall⟩ | ⟨x0, hx0, hqx, hmin⟩
          · exfalso
            cases l with
            | nil => simp at h16
            | cons x r => have := hall x (by simp); rw [hl0] at this; cases this
          · cases l with
            | nil => cases hx0
            | cons a rest =>
              have hxa : x0 = a := by
                rcases List.mem_cons.1 hx0 with h1 | h1
                · exact h1
                · have h2 := (List.pairwise_cons.1 hRW.nums).1 x0 h1
                  have h3 := hmin a (by simp) (hl0 _)
                  omega
              subst hxa
              have HRM := hide (show roomL (x0 :: rest) = rest by unfold roomL; rw [if_pos h16]; rfl)
              have r0 := hRW.me.cell (i := 0) rfl
              have ltr := hRW.me.lt
              have g0 := h7.cell (i := 0) rfl
              have g1 := h7.cell (i := 1) rfl
              have g2 := h7.cell (i := 2) rfl
              have g3 := h7.cell (i := 3) rfl
              have lt7 := h7.lt
              have HS := hide (show _ ∧ _ ∧ _ ∧ _ from ⟨hoW, hRW, hXW, hqf⟩)
              have HQX := hide hqx
              clear h7 hoW hRW hXW hqf hqx hmin hx0 hl0 HM HW
              go_wp2
              refine wp_region_text 5 [] [] [] (fun _ => True) (by kernel_rfl) (by kernel_rfl) trivial ?_
              simp only [List.take_succ_cons, List.take_zero, List.drop_succ_cons, List.drop_zero]
              repeat (first | ((refine wpText_h rfl rfl ?_; apply Exists.intro; refine ⟨?_, ?_⟩; next => (go_simp; (try (go_bits; go_simp)); (first | done | with_reducible rfl | (rw [if_neg (by omega)]; (try (go_bits; go_simp)); (first | done | with_reducible rfl)) | (rw [if_pos (by omega)]; (try (go_bits; go_simp)); (first | done | with_reducible rfl))))); (try simp only [Act.put, List.setIfInBounds_toArray, List.set_cons_zero, List.set_cons_succ])) | ((refine wpText_p rfl rfl ?_; apply Exists.intro; refine ⟨?_, ?_⟩; next => (intro w'; go_simp; (try (go_bits; go_simp)); (first | done | with_reducible rfl | (rw [if_neg (by omega)]; (try (go_bits; go_simp)); (first | done | with_reducible rfl)) | (rw [if_pos (by omega)]; (try (go_bits; go_simp)); (first | done | with_reducible rfl))))); (try simp only [Act.put, List.setIfInBounds_toArray, List.set_cons_zero, List.set_cons_succ])) | ((refine wpText_y rfl rfl ?_; apply Exists.intro; refine ⟨?_, ?_⟩; next => (intro w' hS; (first | obtain ⟨_, rfl⟩ := hS | skip); go_simp; (try (go_bits; go_simp)); (first | done | with_reducible rfl | (rw [if_neg (by omega)]; (try (go_bits; go_simp)); (first | done | with_reducible rfl)) | (rw [if_pos (by omega)]; (try (go_bits; go_simp)); (first | done | with_reducible rfl))))); (try simp only [Act.put, List.setIfInBounds_toArray, List.set_cons_zero, List.set_cons_succ])) | (refine wpText_skip (by first | exact .inl rfl | exact .inr (.inl rfl) | exact .inr (.inr rfl)) rfl ?_; (try simp only [Act.put, List.setIfInBounds_toArray, List.set_cons_zero, List.set_cons_succ])))
              refine wpText_nil ?_
              go_wp2_with (refine wpList_ptr_drop _ rfl (.tmp 53) (.tmp 54) rzmT keyT rfl colPT kKey Try.underlying142 b M _ _ rfl HS.out.2.1.mp.drew (keyV q.src q.dst q.proto q.id) (kl q) rfl (kl_ok HS.out.2.2.2) ?_; intro v5 hm5 ho5)
              refine NoX.normal ?_
              go_wp2
              go_meet
              unfold RoomAt
              rw [HRM.out]
              rw [HQX.out, fL_head HS.out.2.1.keys, if_pos (by rw [fL_mem HS.out.2.1.keys (by simp)]; rfl)] at hm5
              have hbr : b ∉ ([] : List Nat) := by simp
              exact ⟨ho5.blk HS.out.2.1.me.drew (by simpa using HS.out.2.1.rnb.symm), hm5, ho5.blk HS.out.2.2.1.drew (by simpa using (HS.out.2.1.mp.ne HS.out.2.2.1).symm), (HS.out.1.drew.mono (by simp)).trans ho5⟩
        · intro key kl' c w2 cnt2 hkey hlk hfc hrg2 hlt ho2 hs2 hen
          obtain ⟨x, hx, hkx, hex⟩ := fL_inv hfc
          obtain ⟨h7, hoW, hRW, hXW⟩ := HW.out
          have hxf := (hRW.fit x hx).h
          have hkk : key = keyV x.2.h.src x.2.h.dst x.2.h.proto x.2.h.id := kKey.inj hkey (by rw [← hkx]; exact kl_ok hxf)
          subst hkk hkx hex
          have h72 := ho2.blk h7 (by simpa using (hrg.ne_blk h7).symm)
          have hX2 := ho2.blk hXW (by simpa using (hrg.ne_blk hXW).symm)
          have hR2 := hRW.offr hrg ho2
          have ho12 : Only [] W1 w2 := hoW.trans' ho2 (by intro i hi hlt; have := H5.out.2.2; simp at hi; omega)
          have HB := hide (show Blk (w2.alloc (.cells zsK.toArray keyT)) w2.heap.size keyT zsK from Blk.newA (by simp))
          clear hs2 h7 hoW hRW hXW ho2
          go_wp2_with (refine wpList_store_cells rfl keyT (.tmp 8) (.tmp 28) rfl w2.heap.size 0 rfl (kcells x.2.h) rfl keyT zsK HB.out (by exact Nat.le_refl _) (by kernel_rfl) (by simp [Value.oneCell']) ?_; intro v3 hw3)
          have h83 : Blk v3 w2.heap.size keyT (kcells x.2.h) := Blk.to hw3.1 (by rfl)
          obtain ⟨k8, hk8⟩ : ∃ k, k = w2.heap.size := ⟨_, rfl⟩
          have ho3 : Only [] w2 v3 := ((Only.refl [] w2).alloc _).trans' hw3.2.1 (by intro i hi hlt; simp at hi; omega)
          rw [← hk8] at h83 ⊢
          have hrg3 := hrg2.only ho3 (by simp) (by simp)
          have hR3 := hR2.only ho3 (by simp) (by simp) (by simp)
          have h73 := ho3.blk h72 (by simp)
          have hX3 := ho3.blk hX2 (by simp)
          have ho13 := ho12.trans ho3
          have hlk : (Instr.lookup rzmT (.map (some b)) (.agg #[.int .u32 q.src, .int .u32 q.dst, I64 q.proto, I64 q.id]) false).run Try.prog v3.drew = .ok (ptrV (fL l (kl q))) v3.drew := (hrg3.map.drew).look kKey (t := rzmT) Try.underlying142 (zcolP _) (kl_ok HM.out.1)
          have r0 := hR3.me.cell (i := 0) rfl
          have ltr := hR3.me.lt
          have g0 := h73.cell (i := 0) rfl
          have g1 := h73.cell (i := 1) rfl
          have g2 := h73.cell (i := 2) rfl
          have g3 := h73.cell (i := 3) rfl
          have lt7 := h73.lt
          have lt8 := h83.lt
          have y0 := h83.cell (i := 0) rfl
          have y1 := h83.cell (i := 1) rfl
          have y2 := h83.cell (i := 2) rfl
          have y3 := h83.cell (i := 3) rfl
          have n1 : v3.cell? ⟨x.1.e, 1, none⟩ = some (I64 x.1.num) := (hR3.cols x hx).me.cell (i := 1) rfl
          have ltn := (hR3.cols x hx).me.lt
          have HS := hide (show _ ∧ _ ∧ _ ∧ _ ∧ _ ∧ _ ∧ _ ∧ _ from ⟨h73, h83, hR3, hX3, ho13, hrg3, hx, hxf⟩)
          have HK := hide (show l.Pairwise fun x y => kl x.2.h ≠ kl y.2.h from hR3.keys)
          obtain ⟨hqf, hq⟩ := HM.out
          clear hw3 hk8 ho3 hrg2 hR2 h72 hX2 ho12 HB hkey hfc h73 h83 hR3 hX3 ho13 hx hxf hqf
          have HEND := hide (show ∀ (v4 : World) (q' : Pkt), MinInv l p (fun z => left z && !z.sameKey (kl x.2.h)) q' → Only [k7] v3 v4 → Blk v4 k7 keyT (kcells q') →
              PtrRange v4 keyT b R M l.length (fL l) (fun z => left z && !z.sameKey (kl x.2.h)) cnt2 ∧ Hid (MinInv l p (fun z => left z && !z.sameKey (kl x.2.h)) q') ∧ Hid (Blk v4 k7 keyT (kcells q') ∧ Only [] W1 v4 ∧ RzAt base r b M v4 num last l ∧ Blk v4 w.heap.size pktT p.cells) from fun v4 q' h1 h2 h3 =>
            ⟨HS.out.2.2.2.2.2.1.only h2 (by simpa using HS.out.2.2.1.mp.ne HS.out.1) (by simpa using HS.out.2.2.2.2.2.1.ne_blk HS.out.1), hide h1, hide ⟨h3, HS.out.2.2.2.2.1.trans' h2 (by intro i hi hlt; have := H5.out.1; simp at hi; omega), HS.out.2.2.1.offk HS.out.1 h2, h2.blk HS.out.2.2.2.1 (by simpa using HS.out.2.2.2.1.ne HS.out.1 (by decide))⟩⟩)
          rcases hq with ⟨hqp, hall⟩ | ⟨x0, hx0, hqx, hmin⟩
          · have HQ := hide (MinInv.first (p := p) HK.out HS.out.2.2.2.2.2.2.1 HS.out.2.2.2.2.2.2.2 hall)
            have hlk2 : (Instr.lookup rzmT (.map (some b)) (.agg #[.int .u32 q.src, .int .u32 q.dst, I64 q.proto, I64 q.id]) false).run Try.prog v3.drew = .ok (.pointer none) v3.drew := by rw [hlk, hqp, fL_none HNW.out]; rfl
            clear hall hlk hqp
            refine wp_region_text0 7 [] [] [] (fun _ => True) (by kernel_rfl) (by kernel_rfl) trivial ?_
            repeat (first | ((refine wpText_h rfl rfl ?_; apply Exists.intro; refine ⟨?_, ?_⟩; next => (go_simp; (try (go_bits; go_simp)); (first | done | with_reducible rfl | (rw [if_neg (by omega)]; (try (go_bits; go_simp)); (first | done | with_reducible rfl)) | (rw [if_pos (by omega)]; (try (go_bits; go_simp)); (first | done | with_reducible rfl))))); (try simp only [Act.put, List.setIfInBounds_toArray, List.set_cons_zero, List.set_cons_succ])) | ((refine wpText_p rfl rfl ?_; apply Exists.intro; refine ⟨?_, ?_⟩; next => (intro w'; go_simp; (try (go_bits; go_simp)); (first | done | with_reducible rfl | (rw [if_neg (by omega)]; (try (go_bits; go_simp)); (first | done | with_reducible rfl)) | (rw [if_pos (by omega)]; (try (go_bits; go_simp)); (first | done | with_reducible rfl))))); (try simp only [Act.put, List.setIfInBounds_toArray, List.set_cons_zero, List.set_cons_succ])) | ((refine wpText_y rfl rfl ?_; apply Exists.intro; refine ⟨?_, ?_⟩; next => (intro w' hS; (first | obtain ⟨_, rfl⟩ := hS | skip); go_simp; (try (go_bits; go_simp)); (first | done | with_reducible rfl | (rw [if_neg (by omega)]; (try (go_bits; go_simp)); (first | done | with_reducible rfl)) | (rw [if_pos (by omega)]; (try (go_bits; go_simp)); (first | done | with_reducible rfl))))); (try simp only [Act.put, List.setIfInBounds_toArray, List.set_cons_zero, List.set_cons_succ])) | (refine wpText_skip (by first | exact .inl rfl | exact .inr (.inl rfl) | exact .inr (.inr rfl)) rfl ?_; (try simp only [Act.put, List.setIfInBounds_toArray, List.set_cons_zero, List.set_cons_succ])))
            refine wpText_nil ?_
            clear hlk2
            go_wp2
            refine wp_region_text0 13 [] [] [] (fun _ => True) (by kernel_rfl) (by kernel_rfl) trivial ?_
            repeat (first | ((refine wpText_h rfl rfl ?_; apply Exists.intro; refine ⟨?_, ?_⟩; next => (go_simp; (try (go_bits; go_simp)); (first | done | with_reducible rfl | (rw [if_neg (by omega)]; (try (go_bits; go_simp)); (first | done | with_reducible rfl)) | (rw [if_pos (by omega)]; (try (go_bits; go_simp)); (first | done | with_reducible rfl))))); (try simp only [Act.put, List.setIfInBounds_toArray, List.set_cons_zero, List.set_cons_succ])) | ((refine wpText_p rfl rfl ?_; apply Exists.intro; refine ⟨?_, ?_⟩; next => (intro w'; go_simp; (try (go_bits; go_simp)); (first | done | with_reducible rfl | (rw [if_neg (by omega)]; (try (go_bits; go_simp)); (first | done | with_reducible rfl)) | (rw [if_pos (by omega)]; (try (go_bits; go_simp)); (first | done | with_reducible rfl))))); (try simp only [Act.put, List.setIfInBounds_toArray, List.set_cons_zero, List.set_cons_succ])) | ((refine wpText_y rfl rfl ?_; apply Exists.intro; refine ⟨?_, ?_⟩; next => (intro w' hS; (first | obtain ⟨_, rfl⟩ := hS | skip); go_simp; (try (go_bits; go_simp)); (first | done | with_reducible rfl | (rw [if_neg (by omega)]; (try (go_bits; go_simp)); (first | done | with_reducible rfl)) | (rw [if_pos (by omega)]; (try (go_bits; go_simp)); (first | done | with_reducible rfl))))); (try simp only [Act.put, List.setIfInBounds_toArray, List.set_cons_zero, List.set_cons_succ])) | (refine wpText_skip (by first | exact .inl rfl | exact .inr (.inl rfl) | exact .inr (.inr rfl)) rfl ?_; (try simp only [Act.put, List.setIfInBounds_toArray, List.set_cons_zero, List.set_cons_succ])))
            refine wpText_nil ?_
            go_wp2_with (refine wpList_store_cells rfl keyT (.tmp 7) (.tmp 49) rfl k7 0 rfl (kcells x.2.h) rfl keyT (kcells q) HS.out.1 (by exact Nat.le_refl _) (by kernel_rfl) (by simp [Value.oneCell']) ?_; intro v4 hw4)
            have HE := hide (HEND.out v4 x.2.h HQ.out ((Only.refl [k7] v3).drew.drew.trans hw4.2.1) (Blk.to hw4.1 (by rfl)))
            simp only [Act.put]
            go_roundw
            case rel => exact ⟨_, cnt2, _, HE.out.1, HE.out.2.1, HE.out.2.2⟩
            case measure => rw [HE.out.1.left_eq, hrg.left_eq]; exact hlt
          · have hlk2 : (Instr.lookup rzmT (.map (some b)) (.agg #[.int .u32 q.src, .int .u32 q.dst, I64 q.proto, I64 q.id]) false).run Try.prog v3.drew = .ok (.pointer (some ⟨x0.1.e, 0, none⟩)) v3.drew := by rw [hlk, hqx, fL_mem HK.out hx0]; rfl
            have n0 : v3.cell? ⟨x0.1.e, 1, none⟩ = some (I64 x0.1.num) := (HS.out.2.2.1.cols x0 hx0).me.cell (i := 1) rfl
            have lt0 := (HS.out.2.2.1.cols x0 hx0).me.lt
            by_cases hcm : x.1.num < x0.1.num
            · have HQ := hide (MinInv.next (p := p) (x0 := x0) HK.out HS.out.2.2.2.2.2.2.1 HS.out.2.2.2.2.2.2.1 HS.out.2.2.2.2.2.2.2 hmin (by omega) (Int.le_refl _))
              clear hmin hlk hqx
              refine wp_region_text0 7 [] [] [] (fun _ => True) (by kernel_rfl) (by kernel_rfl) trivial ?_
              repeat (first | ((refine wpText_h rfl rfl ?_; apply Exists.intro; refine ⟨?_, ?_⟩; next => (go_simp; (try (go_bits; go_simp)); (first | done | with_reducible rfl | (rw [if_neg (by omega)]; (try (go_bits; go_simp)); (first | done | with_reducible rfl)) | (rw [if_pos (by omega)]; (try (go_bits; go_simp)); (first | done | with_reducible rfl))))); (try simp only [Act.put, List.setIfInBounds_toArray, List.set_cons_zero, List.set_cons_succ])) | ((refine wpText_p rfl rfl ?_; apply Exists.intro; refine ⟨?_, ?_⟩; next => (intro w'; go_simp; (try (go_bits; go_simp)); (first | done | with_reducible rfl | (rw [if_neg (by omega)]; (try (go_bits; go_simp)); (first | done | with_reducible rfl)) | (rw [if_pos (by omega)]; (try (go_bits; go_simp)); (first | done | with_reducible rfl))))); (try simp only [Act.put, List.setIfInBounds_toArray, List.set_cons_zero, List.set_cons_succ])) | ((refine wpText_y rfl rfl ?_; apply Exists.intro; refine ⟨?_, ?_⟩; next => (intro w' hS; (first | obtain ⟨_, rfl⟩ := hS | skip); go_simp; (try (go_bits; go_simp)); (first | done | with_reducible rfl | (rw [if_neg (by omega)]; (try (go_bits; go_simp)); (first | done | with_reducible rfl)) | (rw [if_pos (by omega)]; (try (go_bits; go_simp)); (first | done | with_reducible rfl))))); (try simp only [Act.put, List.setIfInBounds_toArray, List.set_cons_zero, List.set_cons_succ])) | (refine wpText_skip (by first | exact .inl rfl | exact .inr (.inl rfl) | exact .inr (.inr rfl)) rfl ?_; (try simp only [Act.put, List.setIfInBounds_toArray, List.set_cons_zero, List.set_cons_succ])))
              refine wpText_nil ?_
              clear hlk2
              go_wp2
              refine wp_region_text0 13 [] [] [] (fun _ => True) (by kernel_rfl) (by kernel_rfl) trivial ?_
              repeat (first | ((refine wpText_h rfl rfl ?_; apply Exists.intro; refine ⟨?_, ?_⟩; next => (go_simp; (try (go_bits; go_simp)); (first | done | with_reducible rfl | (rw [if_neg (by omega)]; (try (go_bits; go_simp)); (first | done | with_reducible rfl)) | (rw [if_pos (by omega)]; (try (go_bits; go_simp)); (first | done | with_reducible rfl))))); (try simp only [Act.put, List.setIfInBounds_toArray, List.set_cons_zero, List.set_cons_succ])) | ((refine wpText_p rfl rfl ?_; apply Exists.intro; refine ⟨?_, ?_⟩; next => (intro w'; go_simp; (try (go_bits; go_simp)); (first | done | with_reducible rfl | (rw [if_neg (by omega)]; (try (go_bits; go_simp)); (first | done | with_reducible rfl)) | (rw [if_pos (by omega)]; (try (go_bits; go_simp)); (first | done | with_reducible rfl))))); (try simp only [Act.put, List.setIfInBounds_toArray, List.set_cons_zero, List.set_cons_succ])) | ((refine wpText_y rfl rfl ?_; apply Exists.intro; refine ⟨?_, ?_⟩; next => (intro w' hS; (first | obtain ⟨_, rfl⟩ := hS | skip); go_simp; (try (go_bits; go_simp)); (first | done | with_reducible rfl | (rw [if_neg (by omega)]; (try (go_bits; go_simp)); (first | done | with_reducible rfl)) | (rw [if_pos (by omega)]; (try (go_bits; go_simp)); (first | done | with_reducible rfl))))); (try simp only [Act.put, List.setIfInBounds_toArray, List.set_cons_zero, List.set_cons_succ])) | (refine wpText_skip (by first | exact .inl rfl | exact .inr (.inl rfl) | exact .inr (.inr rfl)) rfl ?_; (try simp only [Act.put, List.setIfInBounds_toArray, List.set_cons_zero, List.set_cons_succ])))
              refine wpText_nil ?_
              go_wp2_with (refine wpList_store_cells rfl keyT (.tmp 7) (.tmp 49) rfl k7 0 rfl (kcells x.2.h) rfl keyT (kcells q) HS.out.1 (by exact Nat.le_refl _) (by kernel_rfl) (by simp [Value.oneCell']) ?_; intro v4 hw4)
              have HE := hide (HEND.out v4 x.2.h HQ.out ((Only.refl [k7] v3).drew.drew.trans hw4.2.1) (Blk.to hw4.1 (by rfl)))
              simp only [Act.put]
              go_roundw
              case rel => exact ⟨_, cnt2, _, HE.out.1, HE.out.2.1, HE.out.2.2⟩
              case measure => rw [HE.out.1.left_eq, hrg.left_eq]; exact hlt
            · have HQ := hide (show MinInv l p (fun z => left z && !z.sameKey (kl x.2.h)) q from hqx ▸ MinInv.next (p := p) (x0 := x0) HK.out HS.out.2.2.2.2.2.2.1 hx0 (hqx ▸ HM.out.1) hmin (Int.le_refl _) (by omega))
              have HE := hide (HEND.out v3.drew.drew q HQ.out (Only.refl [k7] v3).drew.drew HS.out.1)
              clear hmin hlk hqx
              refine wp_region_text0 7 [] [] [] (fun _ => True) (by kernel_rfl) (by kernel_rfl) trivial ?_
              repeat (first | ((refine wpText_h rfl rfl ?_; apply Exists.intro; refine ⟨?_, ?_⟩; next => (go_simp; (try (go_bits; go_simp)); (first | done | with_reducible rfl | (rw [if_neg (by omega)]; (try (go_bits; go_simp)); (first | done | with_reducible rfl)) | (rw [if_pos (by omega)]; (try (go_bits; go_simp)); (first | done | with_reducible rfl))))); (try simp only [Act.put, List.setIfInBounds_toArray, List.set_cons_zero, List.set_cons_succ])) | ((refine wpText_p rfl rfl ?_; apply Exists.intro; refine ⟨?_, ?_⟩; next => (intro w'; go_simp; (try (go_bits; go_simp)); (first | done | with_reducible rfl | (rw [if_neg (by omega)]; (try (go_bits; go_simp)); (first | done | with_reducible rfl)) | (rw [if_pos (by omega)]; (try (go_bits; go_simp)); (first | done | with_reducible rfl))))); (try simp only [Act.put, List.setIfInBounds_toArray, List.set_cons_zero, List.set_cons_succ])) | ((refine wpText_y rfl rfl ?_; apply Exists.intro; refine ⟨?_, ?_⟩; next => (intro w' hS; (first | obtain ⟨_, rfl⟩ := hS | skip); go_simp; (try (go_bits; go_simp)); (first | done | with_reducible rfl | (rw [if_neg (by omega)]; (try (go_bits; go_simp)); (first | done | with_reducible rfl)) | (rw [if_pos (by omega)]; (try (go_bits; go_simp)); (first | done | with_reducible rfl))))); (try simp only [Act.put, List.setIfInBounds_toArray, List.set_cons_zero, List.set_cons_succ])) | (refine wpText_skip (by first | exact .inl rfl | exact .inr (.inl rfl) | exact .inr (.inr rfl)) rfl ?_; (try simp only [Act.put, List.setIfInBounds_toArray, List.set_cons_zero, List.set_cons_succ])))
              refine wpText_nil ?_
              clear hlk2
              go_wp2
              refine wp_region_text0 13 [] [] [] (fun _ => True) (by kernel_rfl) (by kernel_rfl) trivial ?_
              repeat (first | ((refine wpText_h rfl rfl ?_; apply Exists.intro; refine ⟨?_, ?_⟩; next => (go_simp; (try (go_bits; go_simp)); (first | done | with_reducible rfl | (rw [if_neg (by omega)]; (try (go_bits; go_simp)); (first | done | with_reducible rfl)) | (rw [if_pos (by omega)]; (try (go_bits; go_simp)); (first | done | with_reducible rfl))))); (try simp only [Act.put, List.setIfInBounds_toArray, List.set_cons_zero, List.set_cons_succ])) | ((refine wpText_p rfl rfl ?_; apply Exists.intro; refine ⟨?_, ?_⟩; next => (intro w'; go_simp; (try (go_bits; go_simp)); (first | done | with_reducible rfl | (rw [if_neg (by omega)]; (try (go_bits; go_simp)); (first | done | with_reducible rfl)) | (rw [if_pos (by omega)]; (try (go_bits; go_simp)); (first | done | with_reducible rfl))))); (try simp only [Act.put, List.setIfInBounds_toArray, List.set_cons_zero, List.set_cons_succ])) | ((refine wpText_y rfl rfl ?_; apply Exists.intro; refine ⟨?_, ?_⟩; next => (intro w' hS; (first | obtain ⟨_, rfl⟩ := hS | skip); go_simp; (try (go_bits; go_simp)); (first | done | with_reducible rfl | (rw [if_neg (by omega)]; (try (go_bits; go_simp)); (first | done | with_reducible rfl)) | (rw [if_pos (by omega)]; (try (go_bits; go_simp)); (first | done | with_reducible rfl))))); (try simp only [Act.put, List.setIfInBounds_toArray, List.set_cons_zero, List.set_cons_succ])) | (refine wpText_skip (by first | exact .inl rfl | exact .inr (.inl rfl) | exact .inr (.inr rfl)) rfl ?_; (try simp only [Act.put, List.setIfInBounds_toArray, List.set_cons_zero, List.set_cons_succ])))
              refine wpText_nil ?_
              go_wp2
              go_roundw
              case rel => exact ⟨_, cnt2, _, HE.out.1, HE.out.2.1, HE.out.2.2⟩
              case measure => rw [HE.out.1.left_eq, hrg.left_eq]; exact hlt
    · have g16 : ¬ (16 : Int) ≤ (l.length : Int) := by omega
      have HR : Hid (roomL l = l) := hide (by unfold roomL; rw [if_neg h16])
      clear h16
      go_wp2
      go_meet
      unfold RoomAt
      rw [HR.out]
      exact ⟨H1.out.2.2.me, H1.out.2.2.mp, H1.out.2.1, Only.refl _ _⟩
  case rest =>
    obtain ⟨hme, hmp, hX, hoc⟩ := hcut
    have hbr : b ≠ r := hmp.ne hme
    have q0 := hme.cell (i := 0) rfl
    have q1 := hme.cell (i := 1) rfl
    have z1 := hme.frozen 1
    have ltq := hme.lt
    have e1 : IntKind.i64.wrap (num + 1) = num + 1 := by simp [IntKind.wrap, IntKind.bits, IntKind.signed]; omega
    have hb1 := build_col now (num + 1) p
    have oA : Only [r, b] w (wc.setCell ⟨r, 1, none⟩ (I64 (num + 1))) := ((H1.out.1.mono (by simp)).trans (hoc.mono (by simp))).set (p := ⟨r, 1, none⟩) (.inl (by simp)) _
    have me2 : Blk (wc.setCell ⟨r, 1, none⟩ (I64 (num + 1))) r rasT [.map (some b), I64 (num + 1), I64 last] := hme.set 1 _
    have x2 : Blk (wc.setCell ⟨r, 1, none⟩ (I64 (num + 1))) w.heap.size pktT p.cells := hX.far (by simpa using hX.ne hme (by decide)) _
    have mp2 : PtrMap (wc.setCell ⟨r, 1, none⟩ (I64 (num + 1))) keyT b M (roomL l).length (fL (roomL l)) := hmp.set (by simpa using hbr) _
    obtain ⟨W2, hW2⟩ : ∃ W, W = wc.setCell ⟨r, 1, none⟩ (I64 (num + 1)) := ⟨_, rfl⟩
    rw [← hW2] at oA me2 x2 mp2
    have HW2 := hide hW2
    have H2 := hide (show _ ∧ _ ∧ _ ∧ _ from ⟨oA, me2, x2, mp2⟩)
    have HH := hide h
    clear hme hmp hX hoc hbr oA me2 x2 mp2 hW2 r1 r0' ltr' hlen h
    go_upto_region 11 with (fail)
    rw [show wc.setCell ⟨r, 1, none⟩ (.int .i64 (num + 1)) = W2 from HW2.out.symm]
    clear q0 q1 z1 ltq e1
    have q0 := H2.out.2.1.cell (i := 0) rfl
    have q1 := H2.out.2.1.cell (i := 1) rfl
    have ltq := H2.out.2.1.lt
    obtain ⟨f0, f1, f2, f3, f4, f5, f6, f7⟩ := H2.out.2.2.1.pkt8
    have ltx := H2.out.2.2.1.lt
    refine wp_region_text 7 [] [] [] (fun _ => True) (by kernel_rfl) (by kernel_rfl) trivial ?_
    simp only [List.take_succ_cons, List.take_zero, List.drop_succ_cons, List.drop_zero]
    repeat (first | ((refine wpText_h rfl rfl ?_; apply Exists.intro; refine ⟨?_, ?_⟩; next => (go_simp; (try (go_bits; go_simp)); (first | done | with_reducible rfl | (rw [if_neg (by omega)]; (try (go_bits; go_simp)); (first | done | with_reducible rfl)) | (rw [if_pos (by omega)]; (try (go_bits; go_simp)); (first | done | with_reducible rfl))))); (try simp only [Act.put, List.setIfInBounds_toArray, List.set_cons_zero, List.set_cons_succ])) | ((refine wpText_p rfl rfl ?_; apply Exists.intro; refine ⟨?_, ?_⟩; next => (intro w'; go_simp; (try (go_bits; go_simp)); (first | done | with_reducible rfl | (rw [if_neg (by omega)]; (try (go_bits; go_simp)); (first | done | with_reducible rfl)) | (rw [if_pos (by omega)]; (try (go_bits; go_simp)); (first | done | with_reducible rfl))))); (try simp only [Act.put, List.setIfInBounds_toArray, List.set_cons_zero, List.set_cons_succ])) | ((refine wpText_y rfl rfl ?_; apply Exists.intro; refine ⟨?_, ?_⟩; next => (intro w' hS; (first | obtain ⟨_, rfl⟩ := hS | skip); go_simp; (try (go_bits; go_simp)); (first | done | with_reducible rfl | (rw [if_neg (by omega)]; (try (go_bits; go_simp)); (first | done | with_reducible rfl)) | (rw [if_pos (by omega)]; (try (go_bits; go_simp)); (first | done | with_reducible rfl))))); (try simp only [Act.put, List.setIfInBounds_toArray, List.set_cons_zero, List.set_cons_succ])) | (refine wpText_skip (by first | exact .inl rfl | exact .inr (.inl rfl) | exact .inr (.inr rfl)) rfl ?_; (try simp only [Act.put, List.setIfInBounds_toArray, List.set_cons_zero, List.set_cons_succ])))
    refine wpText_nil ?_
    go_wp2
    refine NoX.normal ?_
    go_wp2
    obtain ⟨W3, hW3⟩ : ∃ W, W = (W2.alloc (.cells #[I64 now, I64 (num + 1), .int .u32 p.src, .int .u32 p.dst, I64 p.proto, I64 p.ttl, I64 p.id, I64 p.off, .bool p.more, .slice p.A p.data.length p.cap, .slice none 0 0, .slice none 0 0, I64 (-1), I64 0] colT)).drew := ⟨_, rfl⟩
    rw [show (W2.alloc (.cells #[I64 now, I64 (num + 1), .int .u32 p.src, .int .u32 p.dst, I64 p.proto, I64 p.ttl, I64 p.id, I64 p.off, .bool p.more, .slice p.A p.data.length p.cap, .slice none 0 0, .slice none 0 0, I64 (-1), I64 0] colT)).drew = W3 from hW3.symm]
    have o3 : Only [] W2 W3 := by rw [hW3]; exact ((Only.refl [] W2).alloc _).drew
    have n3 : Blk W3 W2.heap.size colT [I64 now, I64 (num + 1), .int .u32 p.src, .int .u32 p.dst, I64 p.proto, I64 p.ttl, I64 p.id, I64 p.off, .bool p.more, .slice p.A p.data.length p.cap, .slice none 0 0, .slice none 0 0, I64 (-1), I64 0] := by rw [hW3]; exact Blk.drew (Blk.newA (by simp))
    obtain ⟨e0, he0⟩ : ∃ e, e = W2.heap.size := ⟨_, rfl⟩
    rw [← he0] at n3 ⊢
    have H3 := hide (show _ ∧ _ ∧ _ ∧ _ ∧ _ ∧ _ from ⟨o3, n3, o3.blk H2.out.2.1 (by simp), o3.blk H2.out.2.2.1 (by simp), H2.out.2.2.2.only o3, (show w.heap.size ≤ e0 from by rw [he0]; exact H2.out.1.size)⟩)
    clear q0 q1 ltq f0 f1 f2 f3 f4 f5 f6 f7 ltx hb1 o3 n3 he0 hW3
    have q0 := H3.out.2.2.1.cell (i := 0) rfl
    have ltq := H3.out.2.2.1.lt
    obtain ⟨f0, f1, f2, f3, f4, f5, f6, f7⟩ := H3.out.2.2.2.1.pkt8
    have ltx := H3.out.2.2.2.1.lt
    refine wp_region_text 7 [5] [0, 1, 2, 6] [3] (fun w' => w'.cell? ⟨r, 0, none⟩ = some (.map (some b))) (by kernel_rfl) (by kernel_rfl) (by go_simp) ?_
    simp only [List.take_succ_cons, List.take_zero, List.drop_succ_cons, List.drop_zero]
    repeat (first | ((refine wpText_h rfl rfl ?_; apply Exists.intro; refine ⟨?_, ?_⟩; next => (go_simp; (try (go_bits; go_simp)); (first | done | with_reducible rfl | (rw [if_neg (by omega)]; (try (go_bits; go_simp)); (first | done | with_reducible rfl)) | (rw [if_pos (by omega)]; (try (go_bits; go_simp)); (first | done | with_reducible rfl))))); (try simp only [Act.put, List.setIfInBounds_toArray, List.set_cons_zero, List.set_cons_succ])) | ((refine wpText_p rfl rfl ?_; apply Exists.intro; refine ⟨?_, ?_⟩; next => (intro w'; go_simp; (try (go_bits; go_simp)); (first | done | with_reducible rfl | (rw [if_neg (by omega)]; (try (go_bits; go_simp)); (first | done | with_reducible rfl)) | (rw [if_pos (by omega)]; (try (go_bits; go_simp)); (first | done | with_reducible rfl))))); (try simp only [Act.put, List.setIfInBounds_toArray, List.set_cons_zero, List.set_cons_succ])) | ((refine wpText_y rfl rfl ?_; apply Exists.intro; refine ⟨?_, ?_⟩; next => (intro w' hS; (first | obtain ⟨_, rfl⟩ := hS | skip); go_simp; (try (go_bits; go_simp)); (first | done | with_reducible rfl | (rw [if_neg (by omega)]; (try (go_bits; go_simp)); (first | done | with_reducible rfl)) | (rw [if_pos (by omega)]; (try (go_bits; go_simp)); (first | done | with_reducible rfl))))); (try simp only [Act.put, List.setIfInBounds_toArray, List.set_cons_zero, List.set_cons_succ])) | (refine wpText_skip (by first | exact .inl rfl | exact .inr (.inl rfl) | exact .inr (.inr rfl)) rfl ?_; (try simp only [Act.put, List.setIfInBounds_toArray, List.set_cons_zero, List.set_cons_succ])))
    refine wpText_e rfl rfl (fun K hK => ?_)
    go_wp2_with fail
    refine (key_ok p _).mono ?_
    rintro e w4 ⟨rfl, ho4⟩
    refine hK _ _ ((ho4.blk H3.out.2.2.1.drew (by simp)).cell (i := 0) rfl) ?_
    clear hK K
    repeat (first | ((refine wpText_h rfl rfl ?_; apply Exists.intro; refine ⟨?_, ?_⟩; next => (go_simp; (try (go_bits; go_simp)); (first | done | with_reducible rfl | (rw [if_neg (by omega)]; (try (go_bits; go_simp)); (first | done | with_reducible rfl)) | (rw [if_pos (by omega)]; (try (go_bits; go_simp)); (first | done | with_reducible rfl))))); (try simp only [Act.put, List.setIfInBounds_toArray, List.set_cons_zero, List.set_cons_succ])) | ((refine wpText_p rfl rfl ?_; apply Exists.intro; refine ⟨?_, ?_⟩; next => (intro w'; go_simp; (try (go_bits; go_simp)); (first | done | with_reducible rfl | (rw [if_neg (by omega)]; (try (go_bits; go_simp)); (first | done | with_reducible rfl)) | (rw [if_pos (by omega)]; (try (go_bits; go_simp)); (first | done | with_reducible rfl))))); (try simp only [Act.put, List.setIfInBounds_toArray, List.set_cons_zero, List.set_cons_succ])) | ((refine wpText_y rfl rfl ?_; apply Exists.intro; refine ⟨?_, ?_⟩; next => (intro w' hS; (first | obtain ⟨_, rfl⟩ := hS | skip); go_simp; (try (go_bits; go_simp)); (first | done | with_reducible rfl | (rw [if_neg (by omega)]; (try (go_bits; go_simp)); (first | done | with_reducible rfl)) | (rw [if_pos (by omega)]; (try (go_bits; go_simp)); (first | done | with_reducible rfl))))); (try simp only [Act.put, List.setIfInBounds_toArray, List.set_cons_zero, List.set_cons_succ])) | (refine wpText_skip (by first | exact .inl rfl | exact .inr (.inl rfl) | exact .inr (.inr rfl)) rfl ?_; (try simp only [Act.put, List.setIfInBounds_toArray, List.set_cons_zero, List.set_cons_succ])))
    refine wpText_nil ?_
    go_wp2_with (refine wpList_ptr_store _ rfl (.tmp 73) (.tmp 75) (.tmp 76) rzmT rfl keyT colPT kKey Try.underlying142 b M _ _ rfl (H3.out.2.2.2.2.1.only ((Only.refl [] W3).drew.trans ho4)) (by simp only [maxLen]; omega) (keyV p.src p.dst p.proto p.id) (kl p) rfl e0 rfl (kl_ok HF.out) ?_; intro v5 hm5 ho5)
    refine NoX.normal ?_
    go_wp2
    go_ret
    rw [if_neg (by rw [fL_none (fun x hx => HNW.out x ((room_sub l).subset hx))]; simp)] at hm5
    have o4 : Only [] W2 w4 := H3.out.1.trans ((Only.refl [] W3).drew.trans ho4)
    have o5 : Only [r, b] w v5 := (H2.out.1.trans (o4.mono (by simp))).trans (ho5.mono (by simp))
    exact ⟨e0, rfl, H3.out.2.2.2.2.2, o5, beg_end HH.out HF.out HNW.out hnow H3.out.2.2.2.2.2 o5 (ho5.blk (ho4.blk H3.out.2.2.1.drew (by simp)) (by simpa using HH.out.rnb.symm)) hm5 (ho5.blk (ho4.blk H3.out.2.1.drew (by simp)) (by simpa using (H3.out.2.2.2.2.1.ne H3.out.2.1).symm))⟩

end Go.Proofs.Ytlnejlhdkmneeaa
