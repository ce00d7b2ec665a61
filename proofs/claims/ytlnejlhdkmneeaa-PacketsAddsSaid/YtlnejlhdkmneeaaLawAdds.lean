/- PacketsAdds answers true. -/
import Derived.Test.YtlnejlhdkmneeaaRzD
namespace Go.Proofs.Ytlnejlhdkmneeaa
open Go.RowKit

/-- A packet that comes at a time. -/
structure Arr where
  p : Pkt
  now : Int
def Arr.cells (a : Arr) : List Value := [.int .u32 a.p.src, .int .u32 a.p.dst, I64 a.p.proto, I64 a.p.ttl, I64 a.p.id, I64 a.p.off, .bool a.p.more, .slice a.p.A a.p.data.length a.p.cap, I64 a.now]
def Arr.Fit (w : World) (a : Arr) : Prop := PFit a.p ∧ NumsIn w .u8 a.p.A a.p.data ∧ a.p.data.length ≤ 140737488355328 ∧ (a.p.A = none → a.p.data.length = 0 ∧ a.p.cap = 0) ∧ (-9223372036854775808 ≤ a.p.off ∧ a.p.off < 9223372036854775808)
def ArrsIn (w : World) (A : Option Addr) (l : List Arr) : Prop :=
  ∀ (k : Nat) (r : Arr), l[k]? = some r → ∃ b o, A = some ⟨b, o, none⟩ ∧ ∀ (j : Nat) (v : Value), r.cells[j]? = some v → w.cell? ⟨b, o + k * 9 + j, none⟩ = some v
theorem ArrsIn.only {w w' : World} {A : Option Addr} {rs : List Arr} (h : ArrsIn w A rs) (ho : Only [] w w') : ArrsIn w' A rs := by
  intro k r hr
  obtain ⟨b, o, hA, hc⟩ := h k r hr
  exact ⟨b, o, hA, fun j v hv => by rw [World.cell?_of_block (w := w) (ho.block b (World.block_lt_of_cell? _ _ (hc j v hv)) (by simp))]; exact hc j v hv⟩
abbrev arrT : TypeId := 73

/-- Both hold the same collections, in blocks of their own. -/
def AfterA (w0 : World) (B1 r b r2 k : Nat) (wx : World) : Prop :=
  ∃ (M : Nat) (num clock : Int) (lz : List PC) (lr : List RP) (va : Value), RzAt w0.heap.size r b M wx num clock lz ∧ RrAt B1 r2 wx clock lr va ∧ lr.map (·.c) = lz.map (·.2) ∧ Only [] w0 wx ∧ M ≤ k ∧ (0 ≤ num ∧ num ≤ (k : Int)) ∧ lz.length ≤ 16 ∧
    (∀ j ∈ r :: b :: feet lz, j ∉ rfoot r2 lr va) ∧ w0.heap.size ≤ B1 ∧ B1 ≤ wx.heap.size
theorem roomC_len {l : List Col} (h : l.length ≤ 16) : (roomC l).length ≤ 15 := by
  unfold roomC
  split
  · rw [List.length_drop]; omega
  · omega
theorem addM_len {last now : Int} {l : List Col} {p : Pkt} (h : l.length ≤ 16) : (addM last l p now).l.length ≤ 16 := by
  have h1 : (expC now l).length ≤ 16 := Nat.le_trans (List.length_filter_le _ _) h
  have h2 : (if (expC now l).any (fun c => keyB c.h p) then expC now l else roomC (expC now l) ++ [(⟨p, now, [], [], -1, 0⟩ : Col)]).length ≤ 16 := by
    split
    · exact h1
    · rw [List.length_append]
      have := roomC_len h1
      simp
      omega
  unfold addM
  split
  · exact h
  · split
    · exact h
    · split
      · exact h1
      · simp only
        generalize (if (expC now l).any (fun c => keyB c.h p) then expC now l else roomC (expC now l) ++ [(⟨p, now, [], [], -1, 0⟩ : Col)]) = l2 at h2
        split
        · exact h2
        · split
          · exact Nat.le_trans (List.length_filter_le _ _) h2
          · split
            · exact Nat.le_trans (List.length_filter_le _ _) h2
            · rw [List.length_map]; exact h2
theorem addM_qlen {last now : Int} {l : List Col} {p : Pkt} (hk : ∀ c ∈ l, c.data.length ≤ 65535) (hp : p.data.length ≤ 65535) : (addM last l p now).q.data.length ≤ 65535 := by
  have h0 : zeroP.data.length ≤ 65535 := by simp [zeroP]
  unfold addM
  split
  · exact h0
  · rename_i hv
    have hv0 : p.valid = 0 := by
      rcases Classical.em (p.valid = 0) with h | h
      · exact h
      · exact absurd (.inl h) hv
    have hbd : ¬ p.bad := fun hb => by rw [Pkt.valid_bad hb] at hv0; cases hv0
    unfold Pkt.bad at hbd
    split
    · exact h0
    · split
      · exact hp
      · simp only
        split
        · exact h0
        · rename_i c hc
          have hm := List.mem_of_find?_eq_some hc
          have hcl : c.data.length ≤ 65535 := by
            split at hm
            · exact hk c ((show (expC now l).Sublist l from List.filter_sublist).subset hm)
            · rcases List.mem_append.1 hm with h1 | h1
              · refine hk c ((show (expC now l).Sublist l from List.filter_sublist).subset ?_)
                unfold roomC at h1
                split at h1
                · exact List.mem_of_mem_drop h1
                · exact h1
              · obtain rfl := List.mem_singleton.1 h1
                simp
          split
          · exact h0
          · split
            · show ((stepC c p).data.take _).length ≤ 65535
              rw [List.length_take]
              have h1 : (stepC c p).data.length ≤ 65535 := by
                show (wrC c p p.data).1.length ≤ 65535
                unfold wrC
                rw [(wrB_len _ _ _ _).1, padN_len]
                unfold endP
                omega
              omega
            · exact h0
theorem RzAt.ge {base r b M : Nat} {w : World} {num last : Int} {l : List PC} (h : RzAt base r b M w num last l) : ∀ j ∈ r :: b :: feet l, base ≤ j := by
  intro j hj
  simp only [List.mem_cons] at hj
  rcases hj with rfl | rfl | h1
  · exact h.rb
  · exact h.bb
  · obtain ⟨x, hx, hk⟩ := mem_feet.1 h1
    exact (h.cols x hx).ge hk
theorem RzAt.fresh {w w' : World} {b : Nat} (hm : PtrMap w' keyT b 0 0 (fun _ => none)) (hb : Blk w' (b + 1) rasT [.map (some b), I64 0, I64 0]) (h : w.heap.size ≤ b) : RzAt w.heap.size (b + 1) b 0 w' 0 0 [] :=
  ⟨hb, hm, by simp, .nil, .nil, .nil, by simp, by simp, by omega, h⟩
/-- Numbers do not lie in a block without numbers. -/
theorem NumsIn.off {w : World} {A : Option Addr} {l : List Nat} {g2 : Nat} {t : TypeId} {cs : List Value} (h : NumsIn w .u8 A l) (hb : Blk w g2 t cs) (hcs : ∀ v ∈ cs, ∀ x, v ≠ .int .u8 x) : ∀ g o s, A = some ⟨g, o, s⟩ → l ≠ [] → g ≠ g2 := by
  rintro g o s e hne rfl
  obtain ⟨g3, o3, e3, hc⟩ := h 0 (l[0]'(List.length_pos_iff.2 hne)) (List.getElem?_eq_getElem _)
  rw [e] at e3
  injection e3 with e3
  injection e3 with e3 e4
  subst e3
  unfold Blk at hb
  have h1 : cs[o3 + 0]? = some (.int .u8 (l[0]'(List.length_pos_iff.2 hne) : Nat)) := by simpa [World.cell?, hb] using hc
  exact hcs _ (List.mem_of_getElem? h1) _ rfl
theorem zsP_no : ∀ v ∈ zsP, ∀ x, v ≠ Value.int .u8 x := by
  intro v hv x e
  subst e
  simp at hv
/-- What Add of the reference has left. -/
def EndR (B1 r2 : Nat) (lr : List RP) (va : Value) (o : AddOut) (W : World) (s12 s13 s14 : Value) (wx : World) : Prop :=
  ∃ (G : Nat) (A2 : Option Addr) (c2 : Nat) (lr' : List RP) (va' : Value), s12 = .pointer (some ⟨G, 0, none⟩) ∧ s13 = .bool o.ok ∧ s14 = I64 o.err ∧ Blk wx G rpktT (o.q.at A2 c2).cells ∧ NumsIn wx .u8 A2 o.q.data ∧ lr'.map (·.c) = o.l ∧ RrAt B1 r2 wx o.clock lr' va' ∧
    Only (r2 :: va.ownBlock.toList) W wx ∧ ∀ j ∈ rfoot r2 lr' va', j ∈ rfoot r2 lr va ∨ W.heap.size ≤ j
theorem endR {B1 r2 G c2 : Nat} {lr lr' : List RP} {va va' : Value} {o : AddOut} {W y v : World} {A2 : Option Addr} (hX : Blk y G rpktT zsP) (hG : W.heap.size ≤ G) (hs : StoredCells y G 0 rpktT zsP (o.q.at A2 c2).cells v) (hn : NumsIn y .u8 A2 o.q.data) (hm : lr'.map (·.c) = o.l) (hR : RrAt B1 r2 y o.clock lr' va')
    (ho : Only (r2 :: va.ownBlock.toList) W y) (hf : ∀ j ∈ rfoot r2 lr' va', j ∈ rfoot r2 lr va ∨ W.heap.size ≤ j) : EndR B1 r2 lr va o W (.pointer (some ⟨G, 0, none⟩)) (.bool o.ok) (I64 o.err) v :=
  ⟨G, A2, c2, lr', va', rfl, rfl, rfl, Blk.to hs.1 (by rfl), hn.far hs.2.1 (fun g o2 s e hne hm => hn.off hX zsP_no g o2 s e hne (List.mem_singleton.1 hm)), hm, hR.offz hX hs.2.1, ho.trans' hs.2.1 (by intro i hi hl; simp at hi; omega), hf⟩
theorem disj_step {r b r2 : Nat} {lz lz' : List PC} {lr lr' : List RP} {va va' : Value} {N1 N2 : Nat} (hd : ∀ j ∈ r :: b :: feet lz, j ∉ rfoot r2 lr va) (h1 : ∀ k ∈ feet lz', k ∈ feet lz ∨ N1 ≤ k) (h2 : ∀ j ∈ rfoot r2 lr' va', j ∈ rfoot r2 lr va ∨ N2 ≤ j)
    (hl : ∀ j ∈ rfoot r2 lr va, j < N1) (hz : ∀ j ∈ r :: b :: feet lz', j < N2) : ∀ j ∈ r :: b :: feet lz', j ∉ rfoot r2 lr' va' := by
  intro j hj hm
  have h3 := hz j hj
  rcases h2 j hm with h4 | h4
  · have h5 := hl j h4
    refine hd j ?_ h4
    simp only [List.mem_cons] at hj ⊢
    rcases hj with h6 | h6 | h6
    · exact .inl h6
    · exact .inr (.inl h6)
    · rcases h1 j h6 with h7 | h7
      · exact .inr (.inr h7)
      · omega
  · omega
theorem RzAt.lt {base r b M : Nat} {w : World} {num last : Int} {l : List PC} (h : RzAt base r b M w num last l) : ∀ j ∈ r :: b :: feet l, j < w.heap.size := by
  intro j hj
  simp only [List.mem_cons] at hj
  rcases hj with rfl | rfl | h1
  · exact h.me.lt
  · exact h.mp.lt
  · obtain ⟨x, hx, hk⟩ := mem_feet.1 h1
    exact (h.cols x hx).lt hk
theorem eq_len {lz : List PC} {lr : List RP} {L : List Col} (h1 : lz.map (·.2) = L) (h2 : lr.map (·.c) = L) : lr.length = lz.length := by
  have := congrArg List.length (h2.trans h1.symm)
  simpa using this

set_option maxRecDepth 100000 in
set_option maxHeartbeats 32000000 in
theorem lawadds (A : Option Addr) (n c : Nat) (l0 : List Arr) (w : World) (hn : l0.length = n) (hm : ¬ 40 < n) (hf : ∀ x ∈ l0, x.Fit w) (hA : ArrsIn w A l0) :
    Calls Try.prog 9 #[.slice A n c] w fun e w' => e = .returned (.bool true) ∧ Only [] w w' := by
  have HN := hide hn
  have HF0 := hide hf
  have HR := hide hA
  clear hn hf hA
  go_enter Try.func9, Try.ntmps9
  go_wp2_with fail
  refine (newRz_ok _).mono ?_
  rintro e w1 ⟨rfl, hm1, hb1, ho1, hs1⟩
  have H1 := hide (show RzAt w.heap.size (w.heap.size + 1) w.heap.size 0 w1 0 0 [] ∧ Only [] w w1 from ⟨RzAt.fresh hm1 hb1 (Nat.le_refl _), ho1⟩)
  clear hm1 hb1 ho1 hs1
  go_wp2_with fail
  refine (rnewRz_ok _).mono ?_
  rintro e w2 ⟨r2, rfl, hR2, ho2⟩
  obtain ⟨b, hb⟩ : ∃ b, b = w.heap.size := ⟨_, rfl⟩
  obtain ⟨r, hr⟩ : ∃ r, r = w.heap.size + 1 := ⟨_, rfl⟩
  obtain ⟨B1, hB1⟩ : ∃ p, p = w1.heap.size := ⟨_, rfl⟩
  have HT := hide (show AfterA w B1 r b r2 0 w2 from by
    rw [hb, hr, hB1]
    refine ⟨0, 0, 0, [], [], .slice none 0 0, H1.out.1.only ho2 (by simp) (by simp) (by simp), hR2, rfl, H1.out.2.trans ho2, Nat.le_refl _, ⟨Int.le_refl _, Int.le_refl _⟩, by simp, ?_, H1.out.2.size, ho2.size⟩
    intro j hj hm
    have h1 := H1.out.1.lt j hj
    have h2 := hR2.ge hm
    omega)
  rw [← hr]
  clear hR2 ho2 H1 hB1 hb hr
  go_wp2
  go_loopw [5, 23] (fun nn i wr => ∃ (k : Nat) (s : Int), k ≤ n ∧ i = .int .i64 k ∧ nn = .int .i64 s ∧ (0 ≤ s ∧ s ≤ 5000) ∧ Hid (AfterA w B1 r b r2 k wr)) (fun _ i _ => n - (Go.RowKit.intOf i).toNat)
  case atStart => exact ⟨0, 0, Nat.zero_le _, rfl, rfl, ⟨Int.le_refl _, by omega⟩, HT⟩
  case round =>
    obtain ⟨k, s, hk, rfl, rfl, hs, HW⟩ := hrel
    rcases Nat.lt_or_ge k n with hlt | hge
    · obtain ⟨a, hx⟩ : ∃ x, l0[k]? = some x := ⟨_, List.getElem?_eq_getElem (by rw [HN.out]; exact hlt)⟩
      have hfit := HF0.out a (List.mem_of_getElem? hx)
      obtain ⟨M, num, clock, lz, lr, va, hP, hQ, hE, hO, hMk, hnum, hlz, hdj, hbb, hbw⟩ := HW.out
      obtain ⟨g, o, rfl, hcx⟩ := (HR.out.only hO) k a hx
      obtain ⟨p, now⟩ := a
      obtain ⟨hpf, hpn, hpl, hp0, hpo⟩ := hfit
      simp only at hpf hpn hpl hp0 hpo
      have x0 := hcx 0 _ rfl
      rw [Nat.add_zero] at x0
      have x1 := hcx 1 _ rfl
      have x2 := hcx 2 _ rfl
      have x3 := hcx 3 _ rfl
      have x4 := hcx 4 _ rfl
      have x5 := hcx 5 _ rfl
      have x6 := hcx 6 _ rfl
      have x7 := hcx 7 _ rfl
      have x8 := hcx 8 _ rfl
      simp only at x0 x1 x2 x3 x4 x5 x6 x7 x8
      obtain ⟨np, hnp⟩ : ∃ np, np = p.data.length := ⟨_, rfl⟩
      rw [← hnp] at x7 hpl hp0
      have HNP := hide hnp
      have HI := hide (show _ ∧ _ ∧ _ ∧ _ ∧ _ ∧ _ ∧ _ ∧ _ ∧ _ ∧ _ from ⟨hP, hQ, hE, hO, hMk, hnum, hlz, hdj, hbb, hbw⟩)
      have HPK := hide (show _ ∧ _ ∧ _ ∧ _ ∧ _ from ⟨hpf, hpn, hpl, hp0, hpo⟩)
      have e8 : IntKind.i64.wrap (s + (np : Int)) = s + (np : Int) := by simp [IntKind.wrap, IntKind.bits, IntKind.signed]; omega
      clear hx hcx hP hQ hE hO hMk hnum hlz hdj hbb hbw hpf hpn hp0 hpo hnp HW
      by_cases hbig : 5000 < s + (np : Int)
      · go_wp2_with fail
        refine (awake_ok _).mono ?_
        rintro e w9 ⟨rfl, ho⟩
        have HZ := hide (show Only [] w w9 from (HI.out.2.2.2.1.trans ((Only.refl [] wr).alloc _)).trans ho)
        clear ho
        go_wp2
        go_ret
        exact ⟨rfl, HZ.out⟩
      · have hnp5 : np ≤ 5000 := by omega
        have hs2 : 0 ≤ s + (np : Int) ∧ s + (np : Int) ≤ 5000 := by omega
        go_upto_region 12 with (fail)
        obtain ⟨W, hW⟩ : ∃ W, W = (wr.alloc (.cells #[.int .u32 p.src, .int .u32 p.dst, I64 p.proto, I64 p.ttl, I64 p.id, I64 p.off, .bool p.more, .slice p.A np p.cap, I64 now] arrT)).alloc (.cells #[.int .u32 p.src, .int .u32 p.dst, I64 p.proto, I64 p.ttl, I64 p.id, I64 p.off, .bool p.more, .slice p.A np p.cap] pktT) := ⟨_, rfl⟩
        rw [show (wr.alloc (.cells #[.int .u32 p.src, .int .u32 p.dst, I64 p.proto, I64 p.ttl, I64 p.id, I64 p.off, .bool p.more, .slice p.A np p.cap, I64 now] arrT)).alloc (.cells #[.int .u32 p.src, .int .u32 p.dst, I64 p.proto, I64 p.ttl, I64 p.id, I64 p.off, .bool p.more, .slice p.A np p.cap] pktT) = W from hW.symm]
        obtain ⟨G, hG⟩ : ∃ G, G = wr.heap.size := ⟨_, rfl⟩
        rw [← hG]
        have o1 : Only [] wr W := by rw [hW]; exact ((Only.refl [] wr).alloc _).alloc _
        have b7 : Blk W G arrT [.int .u32 p.src, .int .u32 p.dst, I64 p.proto, I64 p.ttl, I64 p.id, I64 p.off, .bool p.more, .slice p.A np p.cap, I64 now] := by rw [hW, hG]; exact Blk.alloc (Blk.newA rfl) _
        have b8 : Blk W (G + 1) pktT [.int .u32 p.src, .int .u32 p.dst, I64 p.proto, I64 p.ttl, I64 p.id, I64 p.off, .bool p.more, .slice p.A np p.cap] := by rw [hW, hG]; exact Blk.newA (by simp)
        have HB := hide (show _ ∧ _ ∧ _ ∧ _ from ⟨o1, b7, b8, hG⟩)
        have d5 := b8.cell (i := 5) rfl
        have d7 := b8.cell (i := 7) rfl
        have ltd := b8.lt
        clear o1 b7 b8 hW hG x0 x1 x2 x3 x4 x5 x6 x7 x8 e8 hbig
        refine wp_region_text 7 [5] [0, 2, 6] [1] (fun w' => w'.cell? ⟨G + 1, 5, none⟩ = some (I64 p.off)) (by kernel_rfl) (by kernel_rfl) (by go_simp) ?_
        simp only [List.take_succ_cons, List.take_zero, List.drop_succ_cons, List.drop_zero]
        repeat (first | ((refine wpText_h rfl rfl ?_; apply Exists.intro; refine ⟨?_, ?_⟩; next => (go_simp; (try (go_bits; go_simp)); (first | done | with_reducible rfl | (rw [if_neg (by omega)]; (try (go_bits; go_simp)); (first | done | with_reducible rfl)) | (rw [if_pos (by omega)]; (try (go_bits; go_simp)); (first | done | with_reducible rfl))))); (try simp only [Act.put, List.setIfInBounds_toArray, List.set_cons_zero, List.set_cons_succ])) | ((refine wpText_p rfl rfl ?_; apply Exists.intro; refine ⟨?_, ?_⟩; next => (intro w'; go_simp; (try (go_bits; go_simp)); (first | done | with_reducible rfl | (rw [if_neg (by omega)]; (try (go_bits; go_simp)); (first | done | with_reducible rfl)) | (rw [if_pos (by omega)]; (try (go_bits; go_simp)); (first | done | with_reducible rfl))))); (try simp only [Act.put, List.setIfInBounds_toArray, List.set_cons_zero, List.set_cons_succ])) | ((refine wpText_y rfl rfl ?_; apply Exists.intro; refine ⟨?_, ?_⟩; next => (intro w' hS; (first | obtain ⟨_, rfl⟩ := hS | skip); go_simp; (try (go_bits; go_simp)); (first | done | with_reducible rfl | (rw [if_neg (by omega)]; (try (go_bits; go_simp)); (first | done | with_reducible rfl)) | (rw [if_pos (by omega)]; (try (go_bits; go_simp)); (first | done | with_reducible rfl))))); (try simp only [Act.put, List.setIfInBounds_toArray, List.set_cons_zero, List.set_cons_succ])) | (refine wpText_skip (by first | exact .inl rfl | exact .inr (.inl rfl) | exact .inr (.inr rfl)) rfl ?_; (try simp only [Act.put, List.setIfInBounds_toArray, List.set_cons_zero, List.set_cons_succ])))
        refine wpText_e rfl rfl (fun K hK => ?_)
        go_wp2_with fail
        refine (clone_ok p.A p.data np p.cap _ HNP.out.symm (HPK.out.2.1.only (HI.out.2.2.2.1.trans (HB.out.1.trans (Only.refl [] W).drew))) (by omega) HPK.out.2.2.2.1).mono ?_
        rintro e w3 ⟨A', c', rfl, ho3, hb3, hn3, hc3, hg3⟩
        have o3 : Only [] W w3 := (Only.refl [] W).drew.trans ho3
        have b8 := o3.blk HB.out.2.2.1 (by simp)
        have H3 := hide (show _ ∧ _ ∧ _ ∧ _ ∧ _ from ⟨o3, b8, hb3, hn3, hg3⟩)
        refine hK _ _ (b8.cell (i := 5) rfl) ?_
        clear hK K ho3 hb3 hn3 hc3 hg3 o3 d5 d7 ltd
        repeat (first | ((refine wpText_h rfl rfl ?_; apply Exists.intro; refine ⟨?_, ?_⟩; next => (go_simp; (try (go_bits; go_simp)); (first | done | with_reducible rfl | (rw [if_neg (by omega)]; (try (go_bits; go_simp)); (first | done | with_reducible rfl)) | (rw [if_pos (by omega)]; (try (go_bits; go_simp)); (first | done | with_reducible rfl))))); (try simp only [Act.put, List.setIfInBounds_toArray, List.set_cons_zero, List.set_cons_succ])) | ((refine wpText_p rfl rfl ?_; apply Exists.intro; refine ⟨?_, ?_⟩; next => (intro w'; go_simp; (try (go_bits; go_simp)); (first | done | with_reducible rfl | (rw [if_neg (by omega)]; (try (go_bits; go_simp)); (first | done | with_reducible rfl)) | (rw [if_pos (by omega)]; (try (go_bits; go_simp)); (first | done | with_reducible rfl))))); (try simp only [Act.put, List.setIfInBounds_toArray, List.set_cons_zero, List.set_cons_succ])) | ((refine wpText_y rfl rfl ?_; apply Exists.intro; refine ⟨?_, ?_⟩; next => (intro w' hS; (first | obtain ⟨_, rfl⟩ := hS | skip); go_simp; (try (go_bits; go_simp)); (first | done | with_reducible rfl | (rw [if_neg (by omega)]; (try (go_bits; go_simp)); (first | done | with_reducible rfl)) | (rw [if_pos (by omega)]; (try (go_bits; go_simp)); (first | done | with_reducible rfl))))); (try simp only [Act.put, List.setIfInBounds_toArray, List.set_cons_zero, List.set_cons_succ])) | (refine wpText_skip (by first | exact .inl rfl | exact .inr (.inl rfl) | exact .inr (.inr rfl)) rfl ?_; (try simp only [Act.put, List.setIfInBounds_toArray, List.set_cons_zero, List.set_cons_succ])))
        refine wpText_nil ?_
        have d5 := b8.cell (i := 5) rfl
        have d7 := b8.cell (i := 7) rfl
        have q5 := b8.frozen 5
        have q7 := b8.frozen 7
        have ltd := b8.lt
        clear b8
        go_wp2
        refine NoX.normal ?_
        obtain ⟨W4, hW4⟩ : ∃ W, W = (w3.setCell ⟨G + 1, 5, none⟩ (I64 (p.off.tmod 4096))).setCell ⟨G + 1, 7, none⟩ (.slice A' np c') := ⟨_, rfl⟩
        rw [show (w3.setCell ⟨G + 1, 5, none⟩ (.int .i64 (p.off.tmod 4096))).setCell ⟨G + 1, 7, none⟩ (.slice A' np c') = W4 from hW4.symm]
        have o4 : Only [G + 1] w3 W4 := by rw [hW4]; exact ((Only.refl [G + 1] w3).set (p := ⟨G + 1, 5, none⟩) (.inl (by simp)) _).set (p := ⟨G + 1, 7, none⟩) (.inl (by simp)) _
        have b84 : Blk W4 (G + 1) pktT [.int .u32 p.src, .int .u32 p.dst, I64 p.proto, I64 p.ttl, I64 p.id, I64 (p.off.tmod 4096), .bool p.more, .slice A' np c'] := by rw [hW4]; exact Blk.to ((H3.out.2.1.set 5 _).set 7 _) (by rfl)
        have b74 := o4.blk (H3.out.1.blk HB.out.2.1 (by simp)) (by simp)
        have hoA : Only [] wr W4 := (HB.out.1.trans H3.out.1).trans' o4 (by intro i hi hl; have h1 := HB.out.2.2.2; simp at hi; omega)
        have hb4 : BytesBlk W4 A' p.data := H3.out.2.2.1.sameOn (fun j cs' hj => o4.block j hj.lt (by simpa using hj.ne H3.out.2.1 (by decide)))
        obtain ⟨off', hoff⟩ : ∃ x, x = p.off.tmod 4096 := ⟨_, rfl⟩
        rw [← hoff] at b84 ⊢
        have hg4 : ∀ g o s, A' = some ⟨g, o, s⟩ → p.data ≠ [] → wr.heap.size ≤ g := by
          intro g o s e hne
          obtain ⟨g2, e2, h2⟩ := H3.out.2.2.2.2 (by rw [HNP.out]; exact List.length_pos_iff.2 hne)
          rw [e] at e2
          injection e2 with e2
          injection e2 with e2
          rw [e2]
          exact Nat.le_trans HB.out.1.size h2
        have H4 := hide (show _ ∧ _ ∧ _ ∧ _ ∧ _ ∧ _ from ⟨hoA, b74, b84, hb4, hg4, H3.out.2.2.2.1⟩)
        have HG := hide (show G = wr.heap.size from HB.out.2.2.2)
        obtain rfl := HNP.out
        clear o4 b84 b74 hoA hb4 hg4 hW4 hoff H3 HB d5 d7 q5 q7 ltd
        have d0 := H4.out.2.2.1.cell (i := 0) rfl
        have d1 := H4.out.2.2.1.cell (i := 1) rfl
        have d2 := H4.out.2.2.1.cell (i := 2) rfl
        have d3 := H4.out.2.2.1.cell (i := 3) rfl
        have d4 := H4.out.2.2.1.cell (i := 4) rfl
        have d5 := H4.out.2.2.1.cell (i := 5) rfl
        have d6 := H4.out.2.2.1.cell (i := 6) rfl
        have d7 := H4.out.2.2.1.cell (i := 7) rfl
        have ltd := H4.out.2.2.1.lt
        have t8 := H4.out.2.1.cell (i := 8) rfl
        have lt8 := H4.out.2.1.lt
        go_wp2_with fail
        refine (rzAdd_ok w.heap.size r b M num clock now lz ⟨p.src, p.dst, p.proto, p.ttl, p.id, off', p.more, A', c', p.data⟩ _ (HI.out.1.only H4.out.1 (by simp) (by simp) (by simp)) HPK.out.1 (by have := HI.out.2.2.2.2.2.1; omega) (by have := HI.out.2.2.2.2.1; omega) HI.out.2.2.2.2.2.2.1 (by simp only; omega)
          H4.out.2.2.2.1.nums H4.out.2.2.2.2.2 (fun g o s e hne hm => by have h1 := H4.out.2.2.2.2.1 g o s e hne; have h2 := HI.out.1.lt g hm; omega)).mono ?_
        rintro e w5 ⟨A5, c5, num', lz', rfl, hn5, hu5, hm5, hR5, hnl, hnu, ho5, hf5⟩
        obtain ⟨o9, ho9⟩ : ∃ o, o = addM clock (lz.map (·.2)) ⟨p.src, p.dst, p.proto, p.ttl, p.id, off', p.more, A', c', p.data⟩ now := ⟨_, rfl⟩
        rw [← ho9] at hn5 hu5 hm5 hR5 ⊢
        have hlt4 : ∀ j ∈ r :: b :: feet lz, j < wr.heap.size := HI.out.1.lt
        have n8 : G + 1 ∉ r :: b :: feet lz := fun hm => by have h1 := hlt4 _ hm; have h2 := HG.out; omega
        have n7 : G ∉ r :: b :: feet lz := fun hm => by have h1 := hlt4 _ hm; have h2 := HG.out; omega
        have H5 := hide (show _ ∧ _ ∧ _ ∧ _ ∧ _ ∧ _ ∧ _ ∧ _ ∧ _ from ⟨hn5, hu5, hm5, hR5, And.intro hnl hnu, ho5, hf5, ho5.blk H4.out.2.1 n7, ho5.blk H4.out.2.2.1 n8⟩)
        have HQ9 := hide ho9
        clear hn5 hu5 hm5 hR5 hnl hnu ho5 hf5 ho9 hlt4 n7 n8 d0 d1 d2 d3 d4 d5 d6 d7 ltd t8 lt8
        go_upto_region 14 with (fail)
        obtain ⟨W6, hW6⟩ : ∃ W, W = w5.alloc (.cells (o9.q.at A5 c5).cells.toArray pktT) := ⟨_, rfl⟩
        rw [show w5.alloc (.cells #[.int .u32 (o9.q.at A5 c5).src, .int .u32 (o9.q.at A5 c5).dst, .int .i64 (o9.q.at A5 c5).proto, .int .i64 (o9.q.at A5 c5).ttl, .int .i64 (o9.q.at A5 c5).id, .int .i64 (o9.q.at A5 c5).off, .bool (o9.q.at A5 c5).more, .slice (o9.q.at A5 c5).A (o9.q.at A5 c5).data.length (o9.q.at A5 c5).cap] pktT) = W6 from hW6.symm]
        obtain ⟨G9, hG9⟩ : ∃ G, G = w5.heap.size := ⟨_, rfl⟩
        rw [← hG9]
        have o6 : Only [] w5 W6 := by rw [hW6]; exact (Only.refl [] w5).alloc _
        have b96 : Blk W6 G9 pktT (o9.q.at A5 c5).cells := by rw [hW6, hG9]; exact Blk.newA (by simp)
        have hlr : ∀ j ∈ rfoot r2 lr va, j < wr.heap.size := fun j hj => HI.out.2.1.lt hj
        have hrr6 : RrAt B1 r2 W6 clock lr va := ((HI.out.2.1.keep H4.out.1).only H5.out.2.2.2.2.2.1 (fun j hj hm => HI.out.2.2.2.2.2.2.2.1 j hm hj)).keep o6
        have hn6 : NumsIn W6 .u8 A' p.data := (H4.out.2.2.2.1.nums.far H5.out.2.2.2.2.2.1 (fun g o s e hne hm => by have h1 := H4.out.2.2.2.2.1 g o s e hne; have h2 := HI.out.1.lt g hm; omega)).far o6 (by simp)
        have hs46 : wr.heap.size ≤ W6.heap.size := Nat.le_trans H4.out.1.size (Nat.le_trans H5.out.2.2.2.2.2.1.size o6.size)
        have H6 := hide (show _ ∧ _ ∧ _ ∧ _ ∧ _ ∧ _ ∧ _ ∧ _ from ⟨o6, b96, hrr6, hn6, o6.blk H5.out.2.2.2.2.2.2.2.1 (by simp), o6.blk H5.out.2.2.2.2.2.2.2.2 (by simp), hs46, hG9⟩)
        have HRL := hide hlr
        have HRS := hide (show ∀ j ∈ r2 :: va.ownBlock.toList, j ∈ rfoot r2 lr va from fun j hj => by
          rcases List.mem_cons.1 hj with h1 | h1
          · exact mem_rfoot.2 (.inl h1)
          · exact mem_rfoot.2 (.inr (.inl (mem_own.1 h1))))
        have HOLD := hide (show ∀ j, wr.heap.size ≤ j → j ∉ r2 :: va.ownBlock.toList from fun j hj hm => by have h1 := HRL.out j (HRS.out j hm); omega)
        have HS14 := hide (show ∀ W : World, Only (r2 :: va.ownBlock.toList) W6 W → (fun w' => w'.cell? ⟨G + 1, 0, none⟩ = some (.int .u32 p.src) ∧ w'.cell? ⟨G + 1, 1, none⟩ = some (.int .u32 p.dst) ∧ w'.cell? ⟨G + 1, 2, none⟩ = some (I64 p.proto) ∧ w'.cell? ⟨G + 1, 3, none⟩ = some (I64 p.ttl) ∧ w'.cell? ⟨G + 1, 4, none⟩ = some (I64 p.id) ∧ w'.cell? ⟨G + 1, 5, none⟩ = some (I64 off') ∧ w'.cell? ⟨G + 1, 6, none⟩ = some (.bool p.more) ∧ w'.cell? ⟨G + 1, 7, none⟩ = some (.slice A' p.data.length c') ∧ w'.cell? ⟨G, 8, none⟩ = some (I64 now)) W from fun W hW => by
          have h8 := hW.blk H6.out.2.2.2.2.2.1 (HOLD.out _ (by have := HG.out; omega))
          have h7 := hW.blk H6.out.2.2.2.2.1 (HOLD.out _ (by have := HG.out; omega))
          exact ⟨h8.cell (i := 0) rfl, h8.cell (i := 1) rfl, h8.cell (i := 2) rfl, h8.cell (i := 3) rfl, h8.cell (i := 4) rfl, h8.cell (i := 5) rfl, h8.cell (i := 6) rfl, h8.cell (i := 7) rfl, h7.cell (i := 8) rfl⟩)
        clear o6 b96 hlr hrr6 hn6 hs46 hW6 hG9
        go_cut [12, 13, 14] from 55 to 64 (fun s12 s13 s14 wx => EndR B1 r2 lr va o9 W6 s12 s13 s14 wx)
        case first =>
          have HO0 := hide (show Only [] W6 W6.drew from (Only.refl [] W6).drew)
          refine wp_region_sch 14 [2, 5, 10, 11] (fun w' => w'.cell? ⟨G + 1, 0, none⟩ = some (.int .u32 p.src) ∧ w'.cell? ⟨G + 1, 1, none⟩ = some (.int .u32 p.dst) ∧ w'.cell? ⟨G + 1, 2, none⟩ = some (I64 p.proto) ∧ w'.cell? ⟨G + 1, 3, none⟩ = some (I64 p.ttl) ∧ w'.cell? ⟨G + 1, 4, none⟩ = some (I64 p.id) ∧ w'.cell? ⟨G + 1, 5, none⟩ = some (I64 off') ∧ w'.cell? ⟨G + 1, 6, none⟩ = some (.bool p.more) ∧ w'.cell? ⟨G + 1, 7, none⟩ = some (.slice A' p.data.length c') ∧ w'.cell? ⟨G, 8, none⟩ = some (I64 now)) (by kernel_rfl) (by kernel_rfl) (HS14.out _ (HO0.out.mono (by simp))) ?_
          repeat (first | ((refine sch_y rfl rfl rfl rfl ?_; apply Exists.intro; refine ⟨?_, ?_⟩; next => (intro w' hS; (first | obtain ⟨_, rfl⟩ := hS | skip); go_simp; (try (go_bits; go_simp)); (first | done | with_reducible rfl | (rw [if_neg (by omega)]; (try (go_bits; go_simp)); (first | done | with_reducible rfl)) | (rw [if_pos (by omega)]; (try (go_bits; go_simp)); (first | done | with_reducible rfl))))); (try simp only [Act.put, List.setIfInBounds_toArray, List.set_cons_zero, List.set_cons_succ])) | ((refine sch_skip rfl rfl rfl rfl ?_); (try simp only [Act.put, List.setIfInBounds_toArray, List.set_cons_zero, List.set_cons_succ])))
          refine sch_e2 rfl rfl rfl rfl rfl rfl ?_ ?_
          · refine ⟨rfl, fun K hK => ?_⟩
            go_wp2_with fail
            refine (ref_ok (⟨p.src, p.dst, p.proto, p.ttl, p.id, off', p.more, A', c', p.data⟩ : Pkt) _).mono ?_
            rintro e y1 ⟨rfl, hok⟩
            have HO1 := hide (show Only [] W6 _ from HO0.out.trans hok)
            clear hok
            refine hK _ _ (HS14.out _ (HO1.out.mono (by simp))) ?_
            clear hK K
            try simp only [Act.put, List.setIfInBounds_toArray, List.set_cons_zero, List.set_cons_succ]
            repeat (first | ((refine sch_y rfl rfl rfl rfl ?_; apply Exists.intro; refine ⟨?_, ?_⟩; next => (intro w' hS; (first | obtain ⟨_, rfl⟩ := hS | skip); go_simp; (try (go_bits; go_simp)); (first | done | with_reducible rfl | (rw [if_neg (by omega)]; (try (go_bits; go_simp)); (first | done | with_reducible rfl)) | (rw [if_pos (by omega)]; (try (go_bits; go_simp)); (first | done | with_reducible rfl))))); (try simp only [Act.put, List.setIfInBounds_toArray, List.set_cons_zero, List.set_cons_succ])) | ((refine sch_skip rfl rfl rfl rfl ?_); (try simp only [Act.put, List.setIfInBounds_toArray, List.set_cons_zero, List.set_cons_succ])))
            refine sch_e2 rfl rfl rfl rfl rfl rfl ?_ ?_
            · refine ⟨rfl, fun K hK => ?_⟩
              go_wp2_with fail
              refine (radd_ok B1 r2 clock now lr va (⟨p.src, p.dst, p.proto, p.ttl, p.id, off', p.more, A', c', p.data⟩ : Pkt) _ (H6.out.2.2.1.keep HO1.out) (Nat.le_trans HI.out.2.2.2.2.2.2.2.2.2 (Nat.le_trans H6.out.2.2.2.2.2.2.1 HO1.out.size)) (by rw [HI.out.2.2.1]; exact HI.out.1.ok) HPK.out.1 (by rw [show lr.length = lz.length from eq_len rfl HI.out.2.2.1]; exact HI.out.2.2.2.2.2.2.1) (by simp only; omega) (H6.out.2.2.2.1.far HO1.out (by simp)) H4.out.2.2.2.2.2 (fun g o s e hne hm => by have h1 := H4.out.2.2.2.2.1 g o s e hne; have h2 := HRL.out g hm; omega)).mono ?_
              rintro e y2 ⟨A2, c2, lr2, va2, rfl, hn2, hm2, hr2, ho2, hf2⟩
              have hq9 : addM clock (lr.map (·.c)) (⟨p.src, p.dst, p.proto, p.ttl, p.id, off', p.more, A', c', p.data⟩ : Pkt) now = o9 := by rw [HI.out.2.2.1]; exact HQ9.out.symm
              rw [hq9] at hn2 hm2 hr2 ⊢
              have HO2 := hide (show Only (r2 :: va.ownBlock.toList) W6 y2 from (HO1.out.mono (by simp)).trans ho2)
              have HR2 := hide (show _ ∧ _ ∧ _ ∧ _ from ⟨hn2, hm2, hr2, fun j hj => (hf2 j hj).imp id (fun h => Nat.le_trans HO1.out.size h)⟩)
              clear hq9 hn2 hm2 hr2 ho2 hf2
              refine hK _ _ (HS14.out _ HO2.out) ?_
              clear hK K
              try simp only [Act.put, List.setIfInBounds_toArray, List.set_cons_zero, List.set_cons_succ]
              repeat (first | ((refine sch_y rfl rfl rfl rfl ?_; apply Exists.intro; refine ⟨?_, ?_⟩; next => (intro w' hS; (first | obtain ⟨_, rfl⟩ := hS | skip); go_simp; (try (go_bits; go_simp)); (first | done | with_reducible rfl | (rw [if_neg (by omega)]; (try (go_bits; go_simp)); (first | done | with_reducible rfl)) | (rw [if_pos (by omega)]; (try (go_bits; go_simp)); (first | done | with_reducible rfl))))); (try simp only [Act.put, List.setIfInBounds_toArray, List.set_cons_zero, List.set_cons_succ])) | ((refine sch_skip rfl rfl rfl rfl ?_); (try simp only [Act.put, List.setIfInBounds_toArray, List.set_cons_zero, List.set_cons_succ])))
              refine sch_e1 rfl rfl rfl rfl ?_
              · refine ⟨rfl, fun K hK => ?_⟩
                go_wp2
                have hal : Only [] y2 (y2.alloc (.cells #[.int .u32 0, .int .u32 0, I64 0, I64 0, I64 0, I64 0, .bool false, .slice none 0 0] rpktT)) := (Only.refl [] _).alloc _
                have HO3 := hide (show Only (r2 :: va.ownBlock.toList) W6 _ from HO2.out.trans (hal.mono (by simp)))
                have HR3 := hide (show _ ∧ _ ∧ _ ∧ _ from ⟨HR2.out.1.far hal (by simp), HR2.out.2.1, HR2.out.2.2.1.keep hal, HR2.out.2.2.2⟩)
                have HX3 := hide (show Blk (y2.alloc (.cells #[.int .u32 0, .int .u32 0, I64 0, I64 0, I64 0, I64 0, .bool false, .slice none 0 0] rpktT)) (y2.heap.size) rpktT zsP from Blk.newA (w := y2) (by simp))
                have HG3 := hide (show W6.heap.size ≤ y2.heap.size from by have h1 := HO2.out.size; (try simp at h1 ⊢) <;> omega)
                clear hal
                refine hK _ _ (HS14.out _ HO3.out) ?_
                clear hK K
                try simp only [Act.put, List.setIfInBounds_toArray, List.set_cons_zero, List.set_cons_succ]
                repeat (first | ((refine sch_y rfl rfl rfl rfl ?_; apply Exists.intro; refine ⟨?_, ?_⟩; next => (intro w' hS; (first | obtain ⟨_, rfl⟩ := hS | skip); go_simp; (try (go_bits; go_simp)); (first | done | with_reducible rfl | (rw [if_neg (by omega)]; (try (go_bits; go_simp)); (first | done | with_reducible rfl)) | (rw [if_pos (by omega)]; (try (go_bits; go_simp)); (first | done | with_reducible rfl))))); (try simp only [Act.put, List.setIfInBounds_toArray, List.set_cons_zero, List.set_cons_succ])) | ((refine sch_skip rfl rfl rfl rfl ?_); (try simp only [Act.put, List.setIfInBounds_toArray, List.set_cons_zero, List.set_cons_succ])))
                refine sch_e1 rfl rfl rfl rfl ?_
                · refine ⟨rfl, fun K hK => ?_⟩
                  refine wp_store_cells rpktT (.tmp 12) (.tmp 62) rfl (y2.heap.size) 0 rfl (o9.q.at A2 c2).cells rfl rpktT zsP HX3.out (by exact Nat.le_refl _) (by kernel_rfl) (pcells_one _) ?_
                  intro v4 hst
                  have HE4 := hide (endR HX3.out HG3.out hst HR3.out.1 HR3.out.2.1 HR3.out.2.2.1 HO3.out HR3.out.2.2.2)
                  have hoe := HO3.out.trans' hst.2.1 (by intro i hi hl; have h1 := HG3.out; simp at hi; omega)
                  refine hK _ _ (HS14.out _ hoe) ?_
                  clear hst hoe
                  clear hK K
                  try simp only [Act.put, List.setIfInBounds_toArray, List.set_cons_zero, List.set_cons_succ]
                  repeat (first | ((refine sch_y rfl rfl rfl rfl ?_; apply Exists.intro; refine ⟨?_, ?_⟩; next => (intro w' hS; (first | obtain ⟨_, rfl⟩ := hS | skip); go_simp; (try (go_bits; go_simp)); (first | done | with_reducible rfl | (rw [if_neg (by omega)]; (try (go_bits; go_simp)); (first | done | with_reducible rfl)) | (rw [if_pos (by omega)]; (try (go_bits; go_simp)); (first | done | with_reducible rfl))))); (try simp only [Act.put, List.setIfInBounds_toArray, List.set_cons_zero, List.set_cons_succ])) | ((refine sch_skip rfl rfl rfl rfl ?_); (try simp only [Act.put, List.setIfInBounds_toArray, List.set_cons_zero, List.set_cons_succ])))
                  refine sch_nil ?_
                  go_wp2_with fail
                  go_meet
                  exact HE4.out
            · refine ⟨rfl, fun K hK => ?_⟩
              go_wp2
              have hal : Only [] y1 (y1.alloc (.cells #[.int .u32 0, .int .u32 0, I64 0, I64 0, I64 0, I64 0, .bool false, .slice none 0 0] rpktT)) := (Only.refl [] _).alloc _
              have HO5 := hide (show Only [] W6 _ from HO1.out.trans hal)
              have HX5 := hide (show Blk (y1.alloc (.cells #[.int .u32 0, .int .u32 0, I64 0, I64 0, I64 0, I64 0, .bool false, .slice none 0 0] rpktT)) (y1.heap.size) rpktT zsP from Blk.newA (w := y1) (by simp))
              have HG5 := hide (show W6.heap.size ≤ y1.heap.size from by have h1 := HO1.out.size; (try simp at h1 ⊢) <;> omega)
              clear hal
              refine hK _ _ (HS14.out _ (HO5.out.mono (by simp))) ?_
              clear hK K
              try simp only [Act.put, List.setIfInBounds_toArray, List.set_cons_zero, List.set_cons_succ]
              repeat (first | ((refine sch_y rfl rfl rfl rfl ?_; apply Exists.intro; refine ⟨?_, ?_⟩; next => (intro w' hS; (first | obtain ⟨_, rfl⟩ := hS | skip); go_simp; (try (go_bits; go_simp)); (first | done | with_reducible rfl | (rw [if_neg (by omega)]; (try (go_bits; go_simp)); (first | done | with_reducible rfl)) | (rw [if_pos (by omega)]; (try (go_bits; go_simp)); (first | done | with_reducible rfl))))); (try simp only [Act.put, List.setIfInBounds_toArray, List.set_cons_zero, List.set_cons_succ])) | ((refine sch_skip rfl rfl rfl rfl ?_); (try simp only [Act.put, List.setIfInBounds_toArray, List.set_cons_zero, List.set_cons_succ])))
              refine sch_e1 rfl rfl rfl rfl ?_
              · refine ⟨rfl, fun K hK => ?_⟩
                go_wp2_with fail
                refine (radd_ok B1 r2 clock now lr va (⟨p.src, p.dst, p.proto, p.ttl, p.id, off', p.more, A', c', p.data⟩ : Pkt) _ (H6.out.2.2.1.keep HO5.out) (Nat.le_trans HI.out.2.2.2.2.2.2.2.2.2 (Nat.le_trans H6.out.2.2.2.2.2.2.1 HO5.out.size)) (by rw [HI.out.2.2.1]; exact HI.out.1.ok) HPK.out.1 (by rw [show lr.length = lz.length from eq_len rfl HI.out.2.2.1]; exact HI.out.2.2.2.2.2.2.1) (by simp only; omega) (H6.out.2.2.2.1.far HO5.out (by simp)) H4.out.2.2.2.2.2 (fun g o s e hne hm => by have h1 := H4.out.2.2.2.2.1 g o s e hne; have h2 := HRL.out g hm; omega)).mono ?_
                rintro e y6 ⟨A6, c6, lr6, va6, rfl, hn2, hm2, hr2, ho2, hf2⟩
                have hq9 : addM clock (lr.map (·.c)) (⟨p.src, p.dst, p.proto, p.ttl, p.id, off', p.more, A', c', p.data⟩ : Pkt) now = o9 := by rw [HI.out.2.2.1]; exact HQ9.out.symm
                rw [hq9] at hn2 hm2 hr2 ⊢
                have HO6 := hide (show Only (r2 :: va.ownBlock.toList) W6 y6 from (HO5.out.mono (by simp)).trans ho2)
                have HR6 := hide (show _ ∧ _ ∧ _ ∧ _ from ⟨hn2, hm2, hr2, fun j hj => (hf2 j hj).imp id (fun h => Nat.le_trans HO5.out.size h)⟩)
                have HX6 := hide (ho2.blk HX5.out (HOLD.out _ (Nat.le_trans H6.out.2.2.2.2.2.2.1 HG5.out)))
                clear hq9 hn2 hm2 hr2 ho2 hf2
                refine hK _ _ (HS14.out _ HO6.out) ?_
                clear hK K
                try simp only [Act.put, List.setIfInBounds_toArray, List.set_cons_zero, List.set_cons_succ]
                repeat (first | ((refine sch_y rfl rfl rfl rfl ?_; apply Exists.intro; refine ⟨?_, ?_⟩; next => (intro w' hS; (first | obtain ⟨_, rfl⟩ := hS | skip); go_simp; (try (go_bits; go_simp)); (first | done | with_reducible rfl | (rw [if_neg (by omega)]; (try (go_bits; go_simp)); (first | done | with_reducible rfl)) | (rw [if_pos (by omega)]; (try (go_bits; go_simp)); (first | done | with_reducible rfl))))); (try simp only [Act.put, List.setIfInBounds_toArray, List.set_cons_zero, List.set_cons_succ])) | ((refine sch_skip rfl rfl rfl rfl ?_); (try simp only [Act.put, List.setIfInBounds_toArray, List.set_cons_zero, List.set_cons_succ])))
                refine sch_e1 rfl rfl rfl rfl ?_
                · refine ⟨rfl, fun K hK => ?_⟩
                  refine wp_store_cells rpktT (.tmp 12) (.tmp 62) rfl (y1.heap.size) 0 rfl (o9.q.at A6 c6).cells rfl rpktT zsP HX6.out (by exact Nat.le_refl _) (by kernel_rfl) (pcells_one _) ?_
                  intro v7 hst
                  have HE7 := hide (endR HX6.out HG5.out hst HR6.out.1 HR6.out.2.1 HR6.out.2.2.1 HO6.out HR6.out.2.2.2)
                  have hoe := HO6.out.trans' hst.2.1 (by intro i hi hl; have h1 := HG5.out; simp at hi; omega)
                  refine hK _ _ (HS14.out _ hoe) ?_
                  clear hst hoe
                  clear hK K
                  try simp only [Act.put, List.setIfInBounds_toArray, List.set_cons_zero, List.set_cons_succ]
                  repeat (first | ((refine sch_y rfl rfl rfl rfl ?_; apply Exists.intro; refine ⟨?_, ?_⟩; next => (intro w' hS; (first | obtain ⟨_, rfl⟩ := hS | skip); go_simp; (try (go_bits; go_simp)); (first | done | with_reducible rfl | (rw [if_neg (by omega)]; (try (go_bits; go_simp)); (first | done | with_reducible rfl)) | (rw [if_pos (by omega)]; (try (go_bits; go_simp)); (first | done | with_reducible rfl))))); (try simp only [Act.put, List.setIfInBounds_toArray, List.set_cons_zero, List.set_cons_succ])) | ((refine sch_skip rfl rfl rfl rfl ?_); (try simp only [Act.put, List.setIfInBounds_toArray, List.set_cons_zero, List.set_cons_succ])))
                  refine sch_nil ?_
                  go_wp2_with fail
                  go_meet
                  exact HE7.out
          · refine ⟨rfl, fun K hK => ?_⟩
            go_wp2
            have hal : Only [] W6.drew (W6.alloc (.cells #[.int .u32 0, .int .u32 0, I64 0, I64 0, I64 0, I64 0, .bool false, .slice none 0 0] rpktT)).drew := (Only.refl [] _).alloc _
            have HO8 := hide (show Only [] W6 _ from HO0.out.trans hal)
            have HX8 := hide (show Blk (W6.alloc (.cells #[.int .u32 0, .int .u32 0, I64 0, I64 0, I64 0, I64 0, .bool false, .slice none 0 0] rpktT)).drew (W6.heap.size) rpktT zsP from Blk.newA (w := W6.drew) (by simp))
            have HG8 := hide (show W6.heap.size ≤ W6.heap.size from by have h1 := HO0.out.size; (try simp at h1 ⊢) <;> omega)
            clear hal
            refine hK _ _ (HS14.out _ (HO8.out.mono (by simp))) ?_
            clear hK K
            try simp only [Act.put, List.setIfInBounds_toArray, List.set_cons_zero, List.set_cons_succ]
            repeat (first | ((refine sch_y rfl rfl rfl rfl ?_; apply Exists.intro; refine ⟨?_, ?_⟩; next => (intro w' hS; (first | obtain ⟨_, rfl⟩ := hS | skip); go_simp; (try (go_bits; go_simp)); (first | done | with_reducible rfl | (rw [if_neg (by omega)]; (try (go_bits; go_simp)); (first | done | with_reducible rfl)) | (rw [if_pos (by omega)]; (try (go_bits; go_simp)); (first | done | with_reducible rfl))))); (try simp only [Act.put, List.setIfInBounds_toArray, List.set_cons_zero, List.set_cons_succ])) | ((refine sch_skip rfl rfl rfl rfl ?_); (try simp only [Act.put, List.setIfInBounds_toArray, List.set_cons_zero, List.set_cons_succ])))
            refine sch_e1 rfl rfl rfl rfl ?_
            · refine ⟨rfl, fun K hK => ?_⟩
              go_wp2_with fail
              refine (ref_ok (⟨p.src, p.dst, p.proto, p.ttl, p.id, off', p.more, A', c', p.data⟩ : Pkt) _).mono ?_
              rintro e y9 ⟨rfl, hok⟩
              have HO9 := hide (show Only [] W6 _ from HO8.out.trans hok)
              have HX9 := hide (hok.blk HX8.out (by simp))
              clear hok
              refine hK _ _ (HS14.out _ (HO9.out.mono (by simp))) ?_
              clear hK K
              try simp only [Act.put, List.setIfInBounds_toArray, List.set_cons_zero, List.set_cons_succ]
              repeat (first | ((refine sch_y rfl rfl rfl rfl ?_; apply Exists.intro; refine ⟨?_, ?_⟩; next => (intro w' hS; (first | obtain ⟨_, rfl⟩ := hS | skip); go_simp; (try (go_bits; go_simp)); (first | done | with_reducible rfl | (rw [if_neg (by omega)]; (try (go_bits; go_simp)); (first | done | with_reducible rfl)) | (rw [if_pos (by omega)]; (try (go_bits; go_simp)); (first | done | with_reducible rfl))))); (try simp only [Act.put, List.setIfInBounds_toArray, List.set_cons_zero, List.set_cons_succ])) | ((refine sch_skip rfl rfl rfl rfl ?_); (try simp only [Act.put, List.setIfInBounds_toArray, List.set_cons_zero, List.set_cons_succ])))
              refine sch_e1 rfl rfl rfl rfl ?_
              · refine ⟨rfl, fun K hK => ?_⟩
                go_wp2_with fail
                refine (radd_ok B1 r2 clock now lr va (⟨p.src, p.dst, p.proto, p.ttl, p.id, off', p.more, A', c', p.data⟩ : Pkt) _ (H6.out.2.2.1.keep HO9.out) (Nat.le_trans HI.out.2.2.2.2.2.2.2.2.2 (Nat.le_trans H6.out.2.2.2.2.2.2.1 HO9.out.size)) (by rw [HI.out.2.2.1]; exact HI.out.1.ok) HPK.out.1 (by rw [show lr.length = lz.length from eq_len rfl HI.out.2.2.1]; exact HI.out.2.2.2.2.2.2.1) (by simp only; omega) (H6.out.2.2.2.1.far HO9.out (by simp)) H4.out.2.2.2.2.2 (fun g o s e hne hm => by have h1 := H4.out.2.2.2.2.1 g o s e hne; have h2 := HRL.out g hm; omega)).mono ?_
                rintro e y10 ⟨A10, c10, lr10, va10, rfl, hn2, hm2, hr2, ho2, hf2⟩
                have hq9 : addM clock (lr.map (·.c)) (⟨p.src, p.dst, p.proto, p.ttl, p.id, off', p.more, A', c', p.data⟩ : Pkt) now = o9 := by rw [HI.out.2.2.1]; exact HQ9.out.symm
                rw [hq9] at hn2 hm2 hr2 ⊢
                have HO10 := hide (show Only (r2 :: va.ownBlock.toList) W6 y10 from (HO9.out.mono (by simp)).trans ho2)
                have HR10 := hide (show _ ∧ _ ∧ _ ∧ _ from ⟨hn2, hm2, hr2, fun j hj => (hf2 j hj).imp id (fun h => Nat.le_trans HO9.out.size h)⟩)
                have HX10 := hide (ho2.blk HX9.out (HOLD.out _ (Nat.le_trans H6.out.2.2.2.2.2.2.1 HG8.out)))
                clear hq9 hn2 hm2 hr2 ho2 hf2
                refine hK _ _ (HS14.out _ HO10.out) ?_
                clear hK K
                try simp only [Act.put, List.setIfInBounds_toArray, List.set_cons_zero, List.set_cons_succ]
                repeat (first | ((refine sch_y rfl rfl rfl rfl ?_; apply Exists.intro; refine ⟨?_, ?_⟩; next => (intro w' hS; (first | obtain ⟨_, rfl⟩ := hS | skip); go_simp; (try (go_bits; go_simp)); (first | done | with_reducible rfl | (rw [if_neg (by omega)]; (try (go_bits; go_simp)); (first | done | with_reducible rfl)) | (rw [if_pos (by omega)]; (try (go_bits; go_simp)); (first | done | with_reducible rfl))))); (try simp only [Act.put, List.setIfInBounds_toArray, List.set_cons_zero, List.set_cons_succ])) | ((refine sch_skip rfl rfl rfl rfl ?_); (try simp only [Act.put, List.setIfInBounds_toArray, List.set_cons_zero, List.set_cons_succ])))
                refine sch_e1 rfl rfl rfl rfl ?_
                · refine ⟨rfl, fun K hK => ?_⟩
                  refine wp_store_cells rpktT (.tmp 12) (.tmp 62) rfl (W6.heap.size) 0 rfl (o9.q.at A10 c10).cells rfl rpktT zsP HX10.out (by exact Nat.le_refl _) (by kernel_rfl) (pcells_one _) ?_
                  intro v11 hst
                  have HE11 := hide (endR HX10.out HG8.out hst HR10.out.1 HR10.out.2.1 HR10.out.2.2.1 HO10.out HR10.out.2.2.2)
                  have hoe := HO10.out.trans' hst.2.1 (by intro i hi hl; have h1 := HG8.out; simp at hi; omega)
                  refine hK _ _ (HS14.out _ hoe) ?_
                  clear hst hoe
                  clear hK K
                  try simp only [Act.put, List.setIfInBounds_toArray, List.set_cons_zero, List.set_cons_succ]
                  repeat (first | ((refine sch_y rfl rfl rfl rfl ?_; apply Exists.intro; refine ⟨?_, ?_⟩; next => (intro w' hS; (first | obtain ⟨_, rfl⟩ := hS | skip); go_simp; (try (go_bits; go_simp)); (first | done | with_reducible rfl | (rw [if_neg (by omega)]; (try (go_bits; go_simp)); (first | done | with_reducible rfl)) | (rw [if_pos (by omega)]; (try (go_bits; go_simp)); (first | done | with_reducible rfl))))); (try simp only [Act.put, List.setIfInBounds_toArray, List.set_cons_zero, List.set_cons_succ])) | ((refine sch_skip rfl rfl rfl rfl ?_); (try simp only [Act.put, List.setIfInBounds_toArray, List.set_cons_zero, List.set_cons_succ])))
                  refine sch_nil ?_
                  go_wp2_with fail
                  go_meet
                  exact HE11.out
        case rest =>
          obtain ⟨G12, A2, c2, lr', va', rfl, rfl, rfl, hbq, hnq, hmq, hRq, hoq, hfq⟩ := hcut
          have hd1 : ∀ j ∈ r :: b :: feet lz', j ∉ rfoot r2 lr va := disj_step (N2 := w5.heap.size) HI.out.2.2.2.2.2.2.2.1 H5.out.2.2.2.2.2.2.1 (fun j hj => .inl hj) (fun j hj => Nat.lt_of_lt_of_le (HRL.out j hj) H4.out.1.size) H5.out.2.2.2.1.lt
          have hz6 := H5.out.2.2.2.1.only H6.out.1 (by simp) (by simp) (by simp)
          have hz9 := hz6.only hoq (fun hm => hd1 _ (by simp) (HRS.out _ hm)) (fun hm => hd1 _ (by simp) (HRS.out _ hm)) (fun j hj hm => hd1 j (by simp [hj]) (HRS.out _ hm))
          have hn56 := H5.out.1.far H6.out.1 (by simp)
          have hn59 : NumsIn wc .u8 A5 o9.q.data := hn56.far hoq (fun g o s e hne hm => by
            obtain ⟨cs, hb5⟩ := H5.out.2.1 g o s e hne
            have hb6 := H6.out.1.blk hb5 (by simp)
            rcases List.mem_cons.1 hm with h1 | h1
            · exact hb6.ne H6.out.2.2.1.me (by decide) h1
            · exact off_ne_blk H6.out.2.2.1.row hb6 (by decide) (mem_own.1 h1))
          have hb9 := hoq.blk H6.out.2.1 (HOLD.out _ (by rw [H6.out.2.2.2.2.2.2.2]; exact Nat.le_trans H4.out.1.size H5.out.2.2.2.2.2.1.size))
          have hw9 : Only [] w wc := (((HI.out.2.2.2.1.trans H4.out.1).trans' H5.out.2.2.2.2.2.1 (fun j hj hl => by have h1 := HI.out.1.ge j hj; omega)).trans H6.out.1).trans' hoq (fun j hj hl => by have h1 := HI.out.2.1.ge (HRS.out j hj); have h2 := HI.out.2.2.2.2.2.2.2.2.1; omega)
          have hd9 : ∀ j ∈ r :: b :: feet lz', j ∉ rfoot r2 lr' va' := disj_step (N1 := W6.heap.size) (N2 := W6.heap.size) hd1 (fun j hj => .inl hj) hfq (fun j hj => Nat.lt_of_lt_of_le (HRL.out j hj) H6.out.2.2.2.2.2.2.1) (fun j hj => Nat.lt_of_lt_of_le (H5.out.2.2.2.1.lt j hj) H6.out.1.size)
          have hq5 : o9.q.data.length ≤ 65535 := by
            rw [HQ9.out]
            exact addM_qlen (fun c hc => (HI.out.1.ok.fit c hc).d) (by simp only; omega)
          have hl9 : lz'.length ≤ 16 := by
            have h1 := congrArg List.length H5.out.2.2.1
            rw [List.length_map] at h1
            rw [h1, HQ9.out]
            exact addM_len (by rw [List.length_map]; exact HI.out.2.2.2.2.2.2.1)
          have hll : lr'.length = lz'.length := eq_len H5.out.2.2.1 hmq
          have hfin : ∀ wx : World, Only [] wc wx → AfterA w B1 r b r2 (k + 1) wx := fun wx ho => by
            have h1 := HI.out.2.2.2.2.1
            have h2 := HI.out.2.2.2.2.2.1
            have h3 := H5.out.2.2.2.2.1
            refine ⟨M + 1, num', o9.clock, lz', lr', va', hz9.only ho (by simp) (by simp) (by simp), hRq.keep ho, hmq.trans H5.out.2.2.1.symm, hw9.trans ho, by omega, ⟨by omega, by push_cast; omega⟩, hl9, hd9, HI.out.2.2.2.2.2.2.2.2.1, ?_⟩
            exact Nat.le_trans HI.out.2.2.2.2.2.2.2.2.2 (Nat.le_trans H6.out.2.2.2.2.2.2.1 (Nat.le_trans hoq.size ho.size))
          have HFIN := hide hfin
          have HQ := hide (show _ ∧ _ ∧ _ ∧ _ ∧ _ ∧ _ from ⟨hz9, hn59, hnq, hq5, hll, hRq⟩)
          obtain ⟨f0, f1, f2, f3, f4, f5, f6, f7⟩ := hb9.pkt8r
          obtain ⟨g0, g1, g2, g3, g4, g5, g6, g7⟩ := hbq.pkt8r
          have ltf := hb9.lt
          have ltg := hbq.lt
          have hne1 : (o9.ok != o9.ok) = false := by simp
          have hne2 : (o9.err != o9.err) = false := by simp
          clear hd1 hz6 hz9 hn56 hn59 hb9 hw9 hd9 hq5 hl9 hfin hbq hnq hmq hRq hoq hfq HT
          go_wp2_with fail
          refine (same_true (o9.q.at A5 c5) A2 c2 _ (show o9.q.data.length ≤ maxLen by have := HQ.out.2.2.2.1; simp only [maxLen]; omega) HQ.out.2.1 HQ.out.2.2.1).mono ?_
          rintro e w7 ⟨rfl, ho7⟩
          have HO7 := hide ho7
          have hz7 := HQ.out.1.only ho7 (by simp) (by simp) (by simp)
          clear ho7 f0 f1 f2 f3 f4 f5 f6 f7 g0 g1 g2 g3 g4 g5 g6 g7 ltf ltg
          have HZ7 := hide hz7
          clear hz7
          go_wp2_with fail
          refine (collections_ok r b (M + 1) lz'.length (fL lz') num' o9.clock _ HZ7.out.me HZ7.out.mp).mono ?_
          rintro e w8 ⟨rfl, rfl⟩
          go_wp2_with fail
          refine (rcollections_ok B1 r2 o9.clock lr' va' _ (HQ.out.2.2.2.2.2.keep HO7.out)).mono ?_
          rintro e w8x ⟨rfl, rfl⟩
          rw [HQ.out.2.2.2.2.1]
          have hne3 : (((lz'.length : Nat) : Int) != ((lz'.length : Nat) : Int)) = false := by simp
          have HE := hide (HFIN.out _ HO7.out)
          go_wp2
          go_roundw
          case rel => exact ⟨k + 1, _, by omega, by go_num, rfl, hs2, HE⟩
          case measure => simp [Go.RowKit.intOf]; omega
    · obtain rfl : k = n := by omega
      clear HT
      go_wp2_with fail
      refine (awake_ok _).mono ?_
      rintro e w9 ⟨rfl, ho⟩
      have HZ := hide (show Only [] w w9 from by
        obtain ⟨_, _, _, _, _, _, _, _, _, hb, _⟩ := HW.out
        exact Only.trans hb ho)
      clear ho
      go_wp2
      go_ret
      exact ⟨rfl, HZ.out⟩

end Go.Proofs.Ytlnejlhdkmneeaa
