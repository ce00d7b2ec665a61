/- The reassembly: Add. -/
import Derived.Test.YtlnejlhdkmneeaaAddG3
namespace Go.Proofs.Ytlnejlhdkmneeaa
open Go.RowKit

theorem results_cell_tmp2 {fn : Func} {a u x : Tmp} {t : TypeId} (h : fn.results = #[.cell a t, .tmp u, .tmp x]) (tmps : Array Value) (P : Program) (w : World) {ad : Addr} {v : Value} (ha : tmps.getD a undef = .pointer (some ad)) (hl : (loadVar t ad).run P w = .ok v w) :
    (results fn tmps).run P w = .ok (.tuple #[v, tmps.getD u undef, tmps.getD x undef]) w := by
  have ha' : tmps[a]?.getD undef = .pointer (some ad) := by simpa using ha
  simp [results, h, asAddr, ha', hl]
theorem build_zero : ∀ W : World, (Instr.build pktT #[]).run Try.prog W = .ok (.agg #[.int .u32 0, .int .u32 0, I64 0, I64 0, I64 0, I64 0, .bool false, .slice none 0 0]) W := fun _ => by kernel_rfl
theorem zeroP_cells : zeroP.cells = zsP := rfl

/-- The bytes lie in a block of bytes. -/
def U8At (w : World) (A : Option Addr) (data : List Nat) : Prop := ∀ g o s, A = some ⟨g, o, s⟩ → data ≠ [] → ∃ cs, Blk w g u8T cs
theorem U8At.none (w : World) (data : List Nat) : U8At w none data := fun _ _ _ e => by cases e
theorem U8At.bytes {w : World} {A : Option Addr} {data : List Nat} (h : BytesBlk w A data) : U8At w A data := by
  intro g o s e hne
  rcases h with h | ⟨g2, rest, h1, h2⟩
  · exact absurd h hne
  · rw [e] at h1
    injection h1 with h1
    injection h1 with h1
    rw [h1]
    exact ⟨_, h2⟩
theorem U8At.off {w : World} {base n c : Nat} {A : Option Addr} {xs : List Value} {data : List Nat} (h : offRow w base u8T 1 (.slice A n c) n xs) : U8At w A data := by
  intro g o s e _
  subst e
  exact offT' h rfl
/-- What Add answers and leaves. -/
def AddRes (base r b M : Nat) (w : World) (num : Int) (l : List PC) (o : AddOut) (e : Ending) (w' : World) : Prop :=
  ∃ A c num' l', e = .returned (.tuple #[(o.q.at A c).V, .bool o.ok, I64 o.err]) ∧ NumsIn w' .u8 A o.q.data ∧ U8At w' A o.q.data ∧ l'.map (·.2) = o.l ∧ RzAt base r b (M + 1) w' num' o.clock l' ∧ num ≤ num' ∧ num' ≤ num + 1 ∧
    Only (r :: b :: feet l) w w' ∧ ∀ k ∈ feet l', k ∈ feet l ∨ w.heap.size ≤ k
theorem RzAt.mono {base r b M M' : Nat} {w : World} {num last : Int} {l : List PC} (h : RzAt base r b M w num last l) (hm : M ≤ M') : RzAt base r b M' w num last l :=
  ⟨h.me, h.mp.mono hm, h.cols, h.apart, h.keys, h.nums, h.top, h.fit, h.rb, h.bb⟩
theorem wpList_rng_drop (w : World) {ops : Array Oper} {rest : List Oper} {o : Oper} {a : Act} {Q : Exit → Act → World → Prop} (hg : o.guard = none) (m x : Operand) (t k : TypeId) (hop : o.op = Op.call { callee := Callee.builtin Builtin.delete, args := #[m, x], argTypes := #[t, k] })
    (e : TypeId) (K : Maps.Keyed Try.prog k) (ht : Try.prog.underlying t = some (.map k e)) (b R n s : Nat) (f : Lit → Option Nat) (left : Lit → Bool) (cnt : Nat)
    (hm : a.eval m = .map (some b)) (hown : PtrRange w k b R n s f left cnt) (key : Value) (kl : Lit) (hx : a.eval x = key) (hkey : keyOf Try.prog k key = some kl)
    (hK : ∀ w' cnt', PtrRange w' k b R n (if (f kl).isSome then s - 1 else s) (updF f kl none) (fun z => left z && !z.sameKey kl) cnt' → cnt' ≤ cnt → Only [b] w w' → wpList Try.prog ops Q rest (a.put o.dst (.tuple #[])) w') :
    wpList Try.prog ops Q (o :: rest) a w := by
  refine wpList_plain hg fun K' hK' => ?_
  obtain ⟨w', cnt', hrun, r1, r2, r3⟩ := hown.drop K ht hkey o.type
  unfold Oper.wp
  simp [execOp, hop, resolve, invoke, builtin, hm, hx, hrun, Result.andThen]
  exact hK' _ _ (hK w' cnt' r1 r2 r3)
/-- On the way through the old ones. -/
def ExpAt (base r b : Nat) (num now : Int) (l : List PC) (p : Pkt) (w wr : World) : Prop :=
  Blk wr r rasT [.map (some b), I64 num, I64 now] ∧ (∀ x ∈ l, ColAt base wr x.1 x.2) ∧ Blk wr w.heap.size pktT p.cells ∧ Blk wr (w.heap.size + 1) pktT zsP ∧ Only [r, b] w wr
theorem ExpAt.step {base r b : Nat} {num now : Int} {l : List PC} {p : Pkt} {w wr wx : World} {S : List Nat} (h : ExpAt base r b num now l p w wr) (ho : Only S wr wx) (hs : ∀ k ∈ S, k = b ∨ ((∀ t cs, Blk wr k t cs → t = keyT) ∧ w.heap.size ≤ k)) (hb : ∀ t cs, ¬ Blk wr b t cs) : ExpAt base r b num now l p w wx := by
  have hk : ∀ k t cs, Blk wr k t cs → t ≠ keyT → k ∉ S := fun k t cs hB ht hm => by
    rcases hs k hm with rfl | ⟨h1, -⟩
    · exact hb _ _ hB
    · exact ht (h1 _ _ hB)
  refine ⟨ho.blk h.1 (hk _ _ _ h.1 (by decide)), fun x hx => (h.2.1 x hx).only ho fun k hkk => ?_, ho.blk h.2.2.1 (hk _ _ _ h.2.2.1 (by decide)), ho.blk h.2.2.2.1 (hk _ _ _ h.2.2.2.1 (by decide)), h.2.2.2.2.trans' ho ?_⟩
  · obtain ⟨t, cs, hB, -, -, h3⟩ := (h.2.1 x hx).kind hkk
    exact hk _ _ _ hB h3
  · intro i hi hlt
    rcases hs i hi with rfl | ⟨-, h2⟩
    · simp
    · omega

theorem feet_sub {l l' : List PC} (h : l'.Sublist l) {k : Nat} (hk : k ∈ feet l') : k ∈ feet l := by
  obtain ⟨x, hx, hk⟩ := mem_feet.1 hk
  exact mem_feet.2 ⟨x, h.subset hx, hk⟩
/-- Where Add holds the packet's collection. -/
def FoundAt (base r b M : Nat) (num now : Int) (l : List PC) (p : Pkt) (w : World) (s : Value) (wx : World) : Prop :=
  ∃ (l2 : List PC) (x : PC) (num' : Int), s = .pointer (some ⟨x.1.e, 0, none⟩) ∧ x ∈ l2 ∧ kl x.2.h = kl p ∧ RzAt base r b (M + 1) wx num' now l2 ∧ num ≤ num' ∧ num' ≤ num + 1 ∧ l2.map (·.2) = withC (expC now (l.map (·.2))) p now ∧
    Blk wx w.heap.size pktT p.cells ∧ Blk wx (w.heap.size + 1) pktT zsP ∧ Only (r :: b :: feet l) w wx ∧ ∀ k ∈ feet l2, k ∈ feet l ∨ w.heap.size ≤ k
theorem any_key {l : List PC} {p : Pkt} (hf : PFit p) (h : ∀ x ∈ l, ColFit x.2) : (l.map (·.2)).any (fun c => keyB c.h p) = true ↔ ∃ x ∈ l, kl x.2.h = kl p := by
  rw [List.any_eq_true]
  constructor
  · rintro ⟨c, hc, hk⟩
    obtain ⟨x, hx, rfl⟩ := List.mem_map.1 hc
    exact ⟨x, hx, (keyB_iff (h x hx).h hf).1 hk⟩
  · rintro ⟨x, hx, hk⟩
    exact ⟨x.2, List.mem_map.2 ⟨x, hx, rfl⟩, (keyB_iff (h x hx).h hf).2 hk⟩
theorem RzAt.dropK {base r b M : Nat} {w w' : World} {num last : Int} {l : List PC} {x : PC} {p : Pkt} (h : RzAt base r b M w num last l) (hf : PFit p) (hx : x ∈ l) (e : kl x.2.h = kl p)
    (hm : PtrMap w' keyT b M (if (fL l (kl p)).isSome then l.length - 1 else l.length) (updF (fL l) (kl p) none)) (ho : Only [b] w w') : RzAt base r b M w' num last (dropK l p) := by
  have hfx : fL l (kl p) = some x.1.e := by rw [← e, fL_mem h.keys hx]
  obtain ⟨h1, h2⟩ := dropK_spec hf h.fit h.keys hx e
  rw [hfx, if_pos (show (some x.1.e).isSome = true from rfl), ← h1, ← h2] at hm
  exact h.sub (dropK_sub l p) (ho.blk h.me (by simpa using h.rnb.symm)) hm (fun y hy => (h.cols y hy).only ho (fun k hk => by simpa using (h.far hy hk).2))
theorem dropK_put (l : List PC) (p : Pkt) (x' : PC) (h : keyB x'.2.h p = true) : dropK (putK l p x') p = dropK l p := by
  unfold dropK putK
  induction l with
  | nil => rfl
  | cons a r ih =>
    rw [List.map_cons]
    by_cases hb : keyB a.2.h p = true
    · rw [if_pos hb, List.filter_cons_of_neg (by simp [h]), List.filter_cons_of_neg (by simp [hb]), ih]
    · rw [if_neg hb, List.filter_cons_of_pos (by simpa using hb), List.filter_cons_of_pos (by simpa using hb), ih]
theorem nums_of_off {w : World} {base n c : Nat} {A : Option Addr} {l : List Nat} (h : offRow w base u8T 1 (.slice A n c) n (bcells l)) : NumsIn w .u8 A l := by
  intro k x hx
  have hl : l.length = n := by have := h.1; simpa [bcells] using this
  have hk : k < n := by
    rcases Nat.lt_or_ge k n with h1 | h1
    · exact h1
    · rw [List.getElem?_eq_none (by omega)] at hx; cases hx
  obtain ⟨g, o, c', cs, e, -, -, -⟩ := off_blk h (by omega)
  injection e with e1 e2 e3
  subst e1 e3
  exact ⟨g, o, rfl, off_cells h rfl k _ (bcells_at hx)⟩
/-- Where Add refuses. -/
theorem add_none {base r b M : Nat} {w w' : World} {num last : Int} {l : List PC} {o : AddOut} {err : Int} (h : RzAt base r b M w' num last l) (hO : Only [] w w') (ho : o = ⟨last, l.map (·.2), zeroP, false, err⟩) :
    AddRes base r b M w num l o (.returned (.tuple #[zeroP.V, .bool false, I64 err])) w' := by
  subst ho
  exact ⟨none, 0, num, l, rfl, fun k x hx => by simp [zeroP] at hx, .none _ _, rfl, h.mono (by omega), Int.le_refl _, by omega, hO.mono (by simp), fun k hk => .inl hk⟩

set_option maxRecDepth 100000 in
set_option maxHeartbeats 16000000 in
theorem rzAdd_ok (base r b M : Nat) (num last now : Int) (l : List PC) (p : Pkt) (w : World) (h : RzAt base r b M w num last l) (hf : PFit p) (hnum : 0 ≤ num ∧ num ≤ 1099511627776) (hM : M ≤ 1099511627776) (hll : l.length ≤ 16) (hsz : p.data.length ≤ 1000000)
    (hA : NumsIn w .u8 p.A p.data) (hA0 : p.A = none → p.data.length = 0 ∧ p.cap = 0) (hAb : ∀ g o s, p.A = some ⟨g, o, s⟩ → p.data ≠ [] → g ∉ r :: b :: feet l) :
    Calls Try.prog 36 #[.pointer (some ⟨r, 0, none⟩), p.V, I64 now] w fun e w' => AddRes base r b M w num l (addM last (l.map (·.2)) p now) e w' := by
  obtain ⟨W1, hW1⟩ : ∃ W, W = (w.alloc (.cells p.cells.toArray pktT)).alloc (.cells zsP.toArray pktT) := ⟨_, rfl⟩
  have hO : Only [] w W1 := by rw [hW1]; exact ((Only.refl [] w).alloc _).alloc _
  have hX : Blk W1 w.heap.size pktT p.cells := by rw [hW1]; exact Blk.alloc (Blk.newA (by simp)) _
  have hZ : Blk W1 (w.heap.size + 1) pktT zsP := by rw [hW1]; exact Blk.newA (by simp)
  have hR := h.only hO (by simp) (by simp) (by simp)
  have H1 := hide (show _ ∧ _ ∧ _ ∧ _ from ⟨hO, hX, hZ, hR⟩)
  have HW1 := hide (show (w.alloc (.cells #[.int .u32 p.src, .int .u32 p.dst, I64 p.proto, I64 p.ttl, I64 p.id, I64 p.off, .bool p.more, .slice p.A p.data.length p.cap] pktT)).alloc (.cells #[.int .u32 0, .int .u32 0, I64 0, I64 0, I64 0, I64 0, .bool false, .slice none 0 0] pktT) = W1 from hW1.symm)
  have HF := hide hf
  have HA := hide (show _ ∧ _ ∧ _ from ⟨hA, hA0, hAb⟩)
  have HH := hide h
  have hb0 := build_zero
  obtain ⟨f0, f1, f2, f3, f4, f5, f6, f7⟩ := hX.pkt8
  have ltx := hX.lt
  have hmx : p.data.length ≤ maxLen := by simp only [maxLen]; omega
  have r2 := hR.me.cell (i := 2) rfl
  have z2 := hR.me.frozen 2
  have ltr := hR.me.lt
  clear hO hX hZ hR hf hA hA0 hAb hW1 h
  show Calls Try.prog 36 #[.pointer (some ⟨r, 0, none⟩), .agg #[.int .u32 p.src, .int .u32 p.dst, I64 p.proto, I64 p.ttl, I64 p.id, I64 p.off, .bool p.more, .slice p.A p.data.length p.cap], I64 now] w _
  go_enter Try.func36, Try.ntmps36
  go_upto_region 1 with (fail)
  rw [HW1.out]
  go_wp2_with fail
  refine (Valid_ok p _ hmx).mono ?_
  rintro e w1 ⟨rfl, ho1⟩
  have HR1 := hide (show _ ∧ _ ∧ _ ∧ _ from ⟨H1.out.1.trans ho1, ho1.blk H1.out.2.1 (by simp), ho1.blk H1.out.2.2.1 (by simp), H1.out.2.2.2.only ho1 (by simp) (by simp) (by simp)⟩)
  clear f0 f1 f2 f3 f4 f5 f6 f7 ltx r2 z2 ltr ho1
  by_cases hv : p.valid = 0
  · by_cases ht : tickB now = true
    · rw [hv]
      have HV := hide hv
      have HT := hide ht
      clear hv ht
      go_wp2_with fail
      refine (ticks_ok now _).mono ?_
      rintro e w2 ⟨rfl, rfl⟩
      rw [HT.out]
      have r0 := HR1.out.2.2.2.me.cell (i := 0) rfl
      have r2 := HR1.out.2.2.2.me.cell (i := 2) rfl
      have z2 := HR1.out.2.2.2.me.frozen 2
      have ltr := HR1.out.2.2.2.me.lt
      by_cases hlast : now < last
      · have HO : Hid (addM last (l.map (·.2)) p now = ⟨last, l.map (·.2), zeroP, false, 30⟩) := hide (by
          unfold addM
          have ht := HT.out
          unfold tickB at ht
          rw [if_neg (by simp [HV.out] at ht ⊢; omega), if_pos hlast])
        go_wp2_with (refine wpList_store_cells rfl pktT (.tmp 6) (.tmp 34) rfl (w.heap.size + 1) 0 rfl zsP rfl pktT zsP HR1.out.2.2.1 (by exact Nat.le_refl _) (by kernel_rfl) (by simp [Value.oneCell']) ?_; intro v1 hw3)
        refine bodyPost_ret (results_cell_tmp2 rfl _ _ _ rfl (load_pkt (p := zeroP) (Blk.to hw3.1 (by rfl)))) rfl ?_
        refine add_none (HR1.out.2.2.2.offp HR1.out.2.2.1 hw3.2.1) (HR1.out.1.trans' hw3.2.1 (by intro i hi hlt; simp at hi; omega)) HO.out
      · obtain ⟨W2, hW2⟩ : ∃ W, W = w2.setCell ⟨r, 2, none⟩ (I64 now) := ⟨_, rfl⟩
        have hbr := HR1.out.2.2.2.rnb
        have me2 : Blk W2 r rasT [.map (some b), I64 num, I64 now] := by rw [hW2]; exact HR1.out.2.2.2.me.set 2 _
        have mp2 : PtrMap W2 keyT b M l.length (fL l) := by rw [hW2]; exact HR1.out.2.2.2.mp.set (by simpa using hbr) _
        have o2 : Only [r] w2 W2 := by rw [hW2]; exact (Only.refl _ _).set (p := ⟨r, 2, none⟩) (.inl (by simp)) _
        have x2 := o2.blk HR1.out.2.1 (by simpa using HR1.out.2.1.ne HR1.out.2.2.2.me (by decide))
        have zz2 := o2.blk HR1.out.2.2.1 (by simpa using HR1.out.2.2.1.ne HR1.out.2.2.2.me (by decide))
        have c2 : ∀ x ∈ l, ColAt base W2 x.1 x.2 := fun x hx => (HR1.out.2.2.2.cols x hx).only o2 fun k hk => by have := (HR1.out.2.2.2.far hx hk).1; simpa using this
        have HW2 := hide hW2
        have H2 := hide (show _ ∧ _ ∧ _ ∧ _ ∧ _ ∧ _ from ⟨(HR1.out.1.mono (by simp)).trans o2, x2, zz2, me2, mp2, c2⟩)
        have HL := hide hlast
        clear me2 mp2 o2 x2 zz2 c2 hW2 hbr
        go_upto_region 8 with (fail)
        rw [show w2.setCell ⟨r, 2, none⟩ (.int .i64 now) = W2 from HW2.out.symm]
        clear ltr r2 z2
        have r0 := H2.out.2.2.2.1.cell (i := 0) rfl
        have ltr := H2.out.2.2.2.1.lt
        go_wp2_with (refine wpList_ptr_range _ rfl (.tmp 42) rzmT rfl keyT colPT kKey Try.underlying142 b M l.length (fL l) rfl H2.out.2.2.2.2.1 ?_; intro w0 left hrg hleft ho0 hs0)
        have hbb : ∀ {k T cs}, Blk W2 k T cs → k ≠ b := fun hB => (H2.out.2.2.2.2.1.ne hB).symm
        obtain ⟨R, hR0⟩ : ∃ R, R = W2.heap.size := ⟨_, rfl⟩
        rw [← hR0] at hrg hs0 ⊢
        have HLF := hide (show ∀ x ∈ l, left (kl x.2.h) = true from fun x hx => by rw [hleft _ ⟨_, kl_ok (HH.out.fit x hx).h⟩, fL_mem HH.out.keys hx]; rfl)
        have H3 := hide (show ExpAt base r b num now l p w w0 from ⟨ho0.blk H2.out.2.2.2.1 (by simp), fun x hx => (H2.out.2.2.2.2.2 x hx).only ho0 (by simp), ho0.blk H2.out.2.1 (by simp), ho0.blk H2.out.2.2.1 (by simp), (H2.out.1.mono (by simp)).trans (ho0.mono (by simp))⟩)
        have HR := hide (show w.heap.size ≤ R from by rw [hR0]; exact H2.out.1.size)
        clear hleft ho0 hs0 hR0 r0 ltr hbb
        go_frame
        go_loopw [44] (fun _ wr => ∃ left cnt, PtrRange wr keyT b R M (keepL now left l).length (fL (keepL now left l)) left cnt ∧ Hid (ExpAt base r b num now l p w wr)) (fun _ wr => wr.rangeLeft b R)
        case atStart => exact ⟨left, _, by rw [keep_all HLF.out]; exact hrg, H3⟩
        case round =>
          obtain ⟨left, cnt, hrg, HW⟩ := hrel
          go_wp2_with (refine wpList_ptr_next _ rfl (.tmp 43) rfl keyT kKey b R M _ _ left cnt rfl hrg ?_ ?_)
          · intro hc0 hl0
            have hE := HW.out
            have hsub := exp_sub now l
            rw [keep_none hl0] at hrg
            have HRZ := hide (show RzAt base r b M wr num now (expL now l) from HH.out.sub hsub hE.1 hrg.map hE.2.1)
            have HS := hide (show _ ∧ _ ∧ _ from ⟨hE.2.2.1, hE.2.2.2.1, hE.2.2.2.2⟩)
            have HNOW := hide (show 0 ≤ now ∧ now ≤ 1099511627776 by have ht := HT.out; unfold tickB at ht; simpa using ht)
            obtain ⟨x5, x6⟩ := hE.2.2.1.pkt8.2.2.2.2.2
            obtain ⟨x6, x7⟩ := x6
            have ltx := hE.2.2.1.lt
            clear hE hsub hrg HW hc0 hl0 H3 HLF
            have HAW := hide (show NumsIn wr .u8 p.A p.data from by
              intro k x hx
              obtain ⟨g, o, eA, hc⟩ := HA.out.1 k x hx
              refine ⟨g, o, eA, ?_⟩
              rw [← hc]
              have hg := HA.out.2.2 _ _ _ eA (ne_of_get hx)
              refine World.cell?_of_block (HS.out.2.2.block g (World.block_lt_of_cell? _ _ hc) (fun hm => hg ?_))
              simp only [List.mem_cons, List.not_mem_nil, or_false] at hm ⊢
              rcases hm with h1 | h1
              · exact .inl h1
              · exact .inr (.inl h1))
            have HM3 : Hid (addM last (l.map (·.2)) p now = if p.off = 0 ∧ p.more = false then ⟨now, expC now (l.map (·.2)), p, true, 0⟩ else addM last (l.map (·.2)) p now) := hide (by
              split
              · rename_i hc
                unfold addM
                rw [if_neg (by have h1 := HV.out; have h2 := HNOW.out; simp [h1]; omega), if_neg (by have := HL.out; omega), if_pos hc]
              · rfl)
            by_cases hone : p.off = 0 ∧ p.more = false
            · obtain ⟨ho, hm⟩ := hone
              have HM4 := hide (HM3.out.trans (if_pos ⟨ho, hm⟩))
              obtain ⟨f0, f1, f2, f3, f4, f5, f6, f7⟩ := HS.out.1.pkt8
              have e5 : (p.off == 0) = true := by simp [ho]
              rw [hm] at x6 f6
              rw [ho] at x5 f5
              have HP : Hid (Value.agg #[.int .u32 p.src, .int .u32 p.dst, I64 p.proto, I64 p.ttl, I64 p.id, I64 0, .bool false, .slice p.A p.data.length p.cap] = p.V) := hide (by show _ = Value.agg #[.int .u32 p.src, .int .u32 p.dst, I64 p.proto, I64 p.ttl, I64 p.id, I64 p.off, .bool p.more, .slice p.A p.data.length p.cap]; rw [ho, hm])
              clear ho hm
              go_wp2_with fail
              rw [HP.out]
              refine (pcloneB_ok p _ HAW.out hsz HA.out.2.1).mono ?_
              rintro e w5 ⟨A5, c5, rfl, ho5, hb5⟩
              have HZ := hide (ho5.blk HS.out.2.1 (by simp))
              clear f0 f1 f2 f3 f4 f5 f6 f7 x5 x6 x7 ltx
              go_wp2_with (refine wpList_store_cells rfl pktT (.tmp 6) (.tmp 70) rfl (w.heap.size + 1) 0 rfl (p.at A5 c5).cells rfl pktT zsP HZ.out (by exact Nat.le_refl _) (by kernel_rfl) (by simp [Pkt.cells, Value.oneCell']) ?_; intro v1 hw3)
              refine bodyPost_ret (results_cell_tmp2 rfl _ _ _ rfl (load_pkt (p := p.at A5 c5) (Blk.to hw3.1 (by rfl)))) rfl ?_
              rw [HM4.out]
              have hb6 := (hb5.onlyT (OnlyT.of_only (Ts := [pktT]) (base := 0) hw3.2.1 (fun j hj _ => ⟨Nat.zero_le _, by simp at hj; subst hj; exact HZ.out.hasT (by simp)⟩)) (by decide))
              exact ⟨A5, c5, num, expL now l, rfl, hb6.nums, .bytes hb6, exp_map now l, ((HRZ.out.only ho5 (by simp) (by simp) (by simp)).offp HZ.out hw3.2.1).mono (by omega), Int.le_refl _, by omega,
                (((HS.out.2.2.mono (S' := r :: b :: feet l) (by intro k hk _; simp at hk ⊢; omega)).trans' ho5 (by simp)).trans' hw3.2.1 (by intro i hi hlt; simp at hi; omega)), fun k hk => .inl (feet_sub (exp_sub now l) hk)⟩
            · have HNO := hide hone
              obtain ⟨f0, f1, f2, f3, f4, f5, f6, f7⟩ := HS.out.1.pkt8
              have hc1 : ((p.off == 0) = false) ∨ p.more = true := by
                by_cases h1 : p.off = 0
                · right
                  cases hm : p.more with
                  | true => rfl
                  | false => exact absurd ⟨h1, hm⟩ hone
                · left; simpa using h1
              clear hone
              have r0 := HRZ.out.me.cell (i := 0) rfl
              have ltr := HRZ.out.me.lt
              go_upto_region 13 with (fail)
              go_cut [68] (fun s wx => s = .bool false ∧ wx = wr)
              case first =>
                obtain ⟨q, hq⟩ : ∃ q, q = p.off := ⟨_, rfl⟩
                obtain ⟨mm, hmm⟩ : ∃ mm, mm = p.more := ⟨_, rfl⟩
                have hc2 : ¬ q = 0 ∨ mm = true := by rw [hq, hmm]; rcases hc1 with h1 | h1; exact .inl (by simpa using h1); exact .inr h1
                rw [← hq] at x5
                rw [← hmm] at x6
                clear hq hmm hc1 f0 f1 f2 f3 f4 f5 f6 f7
                rcases hc2 with h2 | rfl
                · go_wp2
                  go_meet
                  exact ⟨rfl, rfl⟩
                · by_cases h3 : q = 0
                  · subst h3
                    go_wp2
                    go_meet
                    exact ⟨rfl, rfl⟩
                  · go_wp2
                    go_meet
                    exact ⟨rfl, rfl⟩
              case rest =>
                obtain ⟨rfl, rfl⟩ := hcut
                clear x5 x6 x7 hc1
                have hlk := fun (w4 : World) (ho : Only [] wc w4) => (HRZ.out.mp.only ho).look kKey (t := rzmT) Try.underlying142 (zcolP _) (kl_ok HF.out)
                go_wp2
                refine wp_region_text0 8 [5] [0, 1, 2] [3] (fun w' => w'.cell? ⟨r, 0, none⟩ = some (.map (some b))) (by kernel_rfl) (by kernel_rfl) (by go_simp) ?_
                repeat (first | ((refine wpText_h rfl rfl ?_; apply Exists.intro; refine ⟨?_, ?_⟩; next => (go_simp; (try (go_bits; go_simp)); (first | done | with_reducible rfl | (rw [if_neg (by omega)]; (try (go_bits; go_simp)); (first | done | with_reducible rfl)) | (rw [if_pos (by omega)]; (try (go_bits; go_simp)); (first | done | with_reducible rfl))))); (try simp only [Act.put, List.setIfInBounds_toArray, List.set_cons_zero, List.set_cons_succ])) | ((refine wpText_p rfl rfl ?_; apply Exists.intro; refine ⟨?_, ?_⟩; next => (intro w'; go_simp; (try (go_bits; go_simp)); (first | done | with_reducible rfl | (rw [if_neg (by omega)]; (try (go_bits; go_simp)); (first | done | with_reducible rfl)) | (rw [if_pos (by omega)]; (try (go_bits; go_simp)); (first | done | with_reducible rfl))))); (try simp only [Act.put, List.setIfInBounds_toArray, List.set_cons_zero, List.set_cons_succ])) | ((refine wpText_y rfl rfl ?_; apply Exists.intro; refine ⟨?_, ?_⟩; next => (intro w' hS; (first | obtain ⟨_, rfl⟩ := hS | skip); go_simp; (try (go_bits; go_simp)); (first | done | with_reducible rfl | (rw [if_neg (by omega)]; (try (go_bits; go_simp)); (first | done | with_reducible rfl)) | (rw [if_pos (by omega)]; (try (go_bits; go_simp)); (first | done | with_reducible rfl))))); (try simp only [Act.put, List.setIfInBounds_toArray, List.set_cons_zero, List.set_cons_succ])) | (refine wpText_skip (by first | exact .inl rfl | exact .inr (.inl rfl) | exact .inr (.inr rfl)) rfl ?_; (try simp only [Act.put, List.setIfInBounds_toArray, List.set_cons_zero, List.set_cons_succ])))
                refine wpText_e rfl rfl (fun K hK => ?_)
                go_wp2_with fail
                refine (key_ok p _).mono ?_
                rintro e w4 ⟨rfl, ho4⟩
                have hl4 := hlk w4 ((Only.refl [] _).drew.trans ho4)
                refine hK _ _ ((ho4.blk HRZ.out.me.drew (by simp)).cell (i := 0) rfl) ?_
                clear hK K hlk
                repeat (first | ((refine wpText_h rfl rfl ?_; apply Exists.intro; refine ⟨?_, ?_⟩; next => (go_simp; (try (go_bits; go_simp)); (first | done | with_reducible rfl | (rw [if_neg (by omega)]; (try (go_bits; go_simp)); (first | done | with_reducible rfl)) | (rw [if_pos (by omega)]; (try (go_bits; go_simp)); (first | done | with_reducible rfl))))); (try simp only [Act.put, List.setIfInBounds_toArray, List.set_cons_zero, List.set_cons_succ])) | ((refine wpText_p rfl rfl ?_; apply Exists.intro; refine ⟨?_, ?_⟩; next => (intro w'; go_simp; (try (go_bits; go_simp)); (first | done | with_reducible rfl | (rw [if_neg (by omega)]; (try (go_bits; go_simp)); (first | done | with_reducible rfl)) | (rw [if_pos (by omega)]; (try (go_bits; go_simp)); (first | done | with_reducible rfl))))); (try simp only [Act.put, List.setIfInBounds_toArray, List.set_cons_zero, List.set_cons_succ])) | ((refine wpText_y rfl rfl ?_; apply Exists.intro; refine ⟨?_, ?_⟩; next => (intro w' hS; (first | obtain ⟨_, rfl⟩ := hS | skip); go_simp; (try (go_bits; go_simp)); (first | done | with_reducible rfl | (rw [if_neg (by omega)]; (try (go_bits; go_simp)); (first | done | with_reducible rfl)) | (rw [if_pos (by omega)]; (try (go_bits; go_simp)); (first | done | with_reducible rfl))))); (try simp only [Act.put, List.setIfInBounds_toArray, List.set_cons_zero, List.set_cons_succ])) | (refine wpText_skip (by first | exact .inl rfl | exact .inr (.inl rfl) | exact .inr (.inr rfl)) rfl ?_; (try simp only [Act.put, List.setIfInBounds_toArray, List.set_cons_zero, List.set_cons_succ])))
                have HW4 := hide (show _ ∧ _ ∧ _ ∧ _ from ⟨HRZ.out.only ((Only.refl [] _).drew.trans ho4) (by simp) (by simp) (by simp), ho4.blk HS.out.1.drew (by simp), ho4.blk HS.out.2.1.drew (by simp), HS.out.2.2.trans' ((Only.refl [] _).drew.trans ho4) (by simp)⟩)
                obtain ⟨f0, f1, f2, f3, f4, f5, f6, f7⟩ := HW4.out.2.1.pkt8
                have ltx := HW4.out.2.1.lt
                clear ho4 hl4
                refine wpText_nil ?_
                go_upto_if 79 with (fail)
                go_cut [11] (fun s wx => FoundAt base r b M num now l p w s wx)
                case first =>
                  by_cases hin : ∃ x ∈ expL now l, kl x.2.h = kl p
                  · have HIN := hide ((any_key HF.out HW4.out.1.fit).2 hin)
                    obtain ⟨x, hx, hk⟩ := hin
                    have hfl : fL (expL now l) (kl p) = some x.1.e := by rw [← hk, fL_mem HW4.out.1.keys hx]
                    rw [hfl, show ptrV (some x.1.e) = .pointer (some ⟨x.1.e, 0, none⟩) from rfl]
                    have HX := hide (And.intro hx hk)
                    clear hx hk hfl
                    go_wp2
                    go_meet
                    exact ⟨expL now l, x, num, rfl, HX.out.1, HX.out.2, HW4.out.1.mono (by omega), Int.le_refl _, by omega, by unfold withC; rw [← exp_map, if_pos HIN.out], HW4.out.2.1, HW4.out.2.2.1, HW4.out.2.2.2.mono (by intro k hk _; simp at hk ⊢; omega), fun k hk => .inl (feet_sub (exp_sub now l) hk)⟩
                  · have HIN := hide (show ¬ ((expL now l).map (·.2)).any (fun c => keyB c.h p) = true from fun h => hin ((any_key HF.out HW4.out.1.fit).1 h))
                    have HNEW := hide (show ∀ x ∈ expL now l, kl x.2.h ≠ kl p from fun x hx e => hin ⟨x, hx, e⟩)
                    have hfl : fL (expL now l) (kl p) = none := fL_none HNEW.out
                    rw [hfl, show ptrV none = .pointer none from rfl]
                    clear hin hfl
                    go_wp2_with fail
                    refine (begin_ok base r b M num now now (expL now l) p _ HW4.out.1 HF.out HNEW.out hnum hM (Nat.le_trans (exp_sub now l).length_le hll) HNOW.out).mono ?_
                    rintro e w5 ⟨e1, rfl, he1, ho5, hR5⟩
                    have HB5 := hide (show _ ∧ _ ∧ _ from ⟨he1, ho5, hR5⟩)
                    clear he1 ho5 hR5
                    go_wp2
                    go_meet
                    refine ⟨roomL (expL now l) ++ [newC e1 num now p], newC e1 num now p, num + 1, rfl, by simp, rfl, HB5.out.2.2, by omega, Int.le_refl _, ?_, ?_, ?_, ?_, ?_⟩
                    · unfold withC
                      rw [← exp_map, if_neg (by have := HIN.out; simpa using this), List.map_append, room_map]
                      rfl
                    · exact HB5.out.2.1.blk HW4.out.2.1 (by simp only [List.mem_cons, List.not_mem_nil, or_false, not_or]; exact ⟨HW4.out.2.1.ne HW4.out.1.me (by decide), (HW4.out.1.mp.ne HW4.out.2.1).symm⟩)
                    · exact HB5.out.2.1.blk HW4.out.2.2.1 (by simp only [List.mem_cons, List.not_mem_nil, or_false, not_or]; exact ⟨HW4.out.2.2.1.ne HW4.out.1.me (by decide), (HW4.out.1.mp.ne HW4.out.2.2.1).symm⟩)
                    · exact (HW4.out.2.2.2.mono (by intro k hk _; simp at hk ⊢; omega)).trans (HB5.out.2.1.mono (by intro k hk _; simp at hk ⊢; omega))
                    · intro k hk
                      obtain ⟨y, hy, hky⟩ := mem_feet.1 hk
                      rcases List.mem_append.1 hy with h1 | h1
                      · exact .inl (mem_feet.2 ⟨y, (exp_sub now l).subset ((room_sub _).subset h1), hky⟩)
                      · obtain rfl : y = newC e1 num now p := by simpa using h1
                        have h2 : k = e1 := by rcases mem_foot.1 hky with h | h | h <;> simp [newC, Value.ownBlock] at h; exact h
                        have h3 := HB5.out.1
                        have h4 := HW4.out.2.2.2.size
                        exact .inr (by omega)
                case rest =>
                  obtain ⟨l2, x, num', hs, hx, hkx, hR, hn1, hn2, hml, hbx, hbz, hoc, hft⟩ := hcut
                  subst hs
                  have hxc := hR.cols x hx
                  have c13 := hxc.me.cell (i := 13) rfl
                  have lte := hxc.me.lt
                  have HC := hide (show _ ∧ _ ∧ _ ∧ _ ∧ _ ∧ _ ∧ _ ∧ _ ∧ _ ∧ _ ∧ _ from ⟨hx, hkx, hR, hn1, hn2, hml, hbx, hbz, hoc, hft, hxc⟩)
                  clear hx hkx hR hn1 hn2 hml hbx hbz hoc hft hxc f0 f1 f2 f3 f4 f5 f6 f7 ltx
                  by_cases h64 : (x.2.cnt : Int) = 64
                  · have HM5 : Hid (addM last (l.map (·.2)) p now = ⟨now, (l2.map (·.2)).filter (fun c => !keyB c.h p), zeroP, false, 18⟩) := hide (by
                      rw [addM_at HV.out HNOW.out (by have := HL.out; omega) (by have := HNO.out; simpa using this) HC.out.2.2.2.2.2.1 HF.out HC.out.2.2.1.fit HC.out.2.2.1.keys HC.out.1 HC.out.2.1, if_pos (by omega)])
                    obtain ⟨f0, f1, f2, f3, f4, f5, f6, f7⟩ := HC.out.2.2.2.2.2.2.1.pkt8
                    have ltx := HC.out.2.2.2.2.2.2.1.lt
                    have r0 := HC.out.2.2.1.me.cell (i := 0) rfl
                    have ltr := HC.out.2.2.1.me.lt
                    rw [h64] at c13
                    clear h64
                    go_wp2
                    refine wp_region_text 6 [5] [0, 1, 2] [3] (fun w' => w'.cell? ⟨r, 0, none⟩ = some (.map (some b))) (by kernel_rfl) (by kernel_rfl) (by go_simp) ?_
                    simp only [List.take_succ_cons, List.take_zero, List.drop_succ_cons, List.drop_zero]
                    repeat (first | ((refine wpText_h rfl rfl ?_; apply Exists.intro; refine ⟨?_, ?_⟩; next => (go_simp; (try (go_bits; go_simp)); (first | done | with_reducible rfl | (rw [if_neg (by omega)]; (try (go_bits; go_simp)); (first | done | with_reducible rfl)) | (rw [if_pos (by omega)]; (try (go_bits; go_simp)); (first | done | with_reducible rfl))))); (try simp only [Act.put, List.setIfInBounds_toArray, List.set_cons_zero, List.set_cons_succ])) | ((refine wpText_p rfl rfl ?_; apply Exists.intro; refine ⟨?_, ?_⟩; next => (intro w'; go_simp; (try (go_bits; go_simp)); (first | done | with_reducible rfl | (rw [if_neg (by omega)]; (try (go_bits; go_simp)); (first | done | with_reducible rfl)) | (rw [if_pos (by omega)]; (try (go_bits; go_simp)); (first | done | with_reducible rfl))))); (try simp only [Act.put, List.setIfInBounds_toArray, List.set_cons_zero, List.set_cons_succ])) | ((refine wpText_y rfl rfl ?_; apply Exists.intro; refine ⟨?_, ?_⟩; next => (intro w' hS; (first | obtain ⟨_, rfl⟩ := hS | skip); go_simp; (try (go_bits; go_simp)); (first | done | with_reducible rfl | (rw [if_neg (by omega)]; (try (go_bits; go_simp)); (first | done | with_reducible rfl)) | (rw [if_pos (by omega)]; (try (go_bits; go_simp)); (first | done | with_reducible rfl))))); (try simp only [Act.put, List.setIfInBounds_toArray, List.set_cons_zero, List.set_cons_succ])) | (refine wpText_skip (by first | exact .inl rfl | exact .inr (.inl rfl) | exact .inr (.inr rfl)) rfl ?_; (try simp only [Act.put, List.setIfInBounds_toArray, List.set_cons_zero, List.set_cons_succ])))
                    refine wpText_e rfl rfl (fun K hK => ?_)
                    go_wp2_with fail
                    refine (key_ok p _).mono ?_
                    rintro e w5 ⟨rfl, ho5⟩
                    refine hK _ _ ((ho5.blk HC.out.2.2.1.me.drew (by simp)).cell (i := 0) rfl) ?_
                    clear hK K
                    repeat (first | ((refine wpText_h rfl rfl ?_; apply Exists.intro; refine ⟨?_, ?_⟩; next => (go_simp; (try (go_bits; go_simp)); (first | done | with_reducible rfl | (rw [if_neg (by omega)]; (try (go_bits; go_simp)); (first | done | with_reducible rfl)) | (rw [if_pos (by omega)]; (try (go_bits; go_simp)); (first | done | with_reducible rfl))))); (try simp only [Act.put, List.setIfInBounds_toArray, List.set_cons_zero, List.set_cons_succ])) | ((refine wpText_p rfl rfl ?_; apply Exists.intro; refine ⟨?_, ?_⟩; next => (intro w'; go_simp; (try (go_bits; go_simp)); (first | done | with_reducible rfl | (rw [if_neg (by omega)]; (try (go_bits; go_simp)); (first | done | with_reducible rfl)) | (rw [if_pos (by omega)]; (try (go_bits; go_simp)); (first | done | with_reducible rfl))))); (try simp only [Act.put, List.setIfInBounds_toArray, List.set_cons_zero, List.set_cons_succ])) | ((refine wpText_y rfl rfl ?_; apply Exists.intro; refine ⟨?_, ?_⟩; next => (intro w' hS; (first | obtain ⟨_, rfl⟩ := hS | skip); go_simp; (try (go_bits; go_simp)); (first | done | with_reducible rfl | (rw [if_neg (by omega)]; (try (go_bits; go_simp)); (first | done | with_reducible rfl)) | (rw [if_pos (by omega)]; (try (go_bits; go_simp)); (first | done | with_reducible rfl))))); (try simp only [Act.put, List.setIfInBounds_toArray, List.set_cons_zero, List.set_cons_succ])) | (refine wpText_skip (by first | exact .inl rfl | exact .inr (.inl rfl) | exact .inr (.inr rfl)) rfl ?_; (try simp only [Act.put, List.setIfInBounds_toArray, List.set_cons_zero, List.set_cons_succ])))
                    refine wpText_nil ?_
                    have HW5 := hide (show Only [] _ w5 from (Only.refl [] _).drew.trans ho5)
                    clear ho5
                    go_wp2_with (refine wpList_ptr_drop _ rfl (.tmp 92) (.tmp 94) rzmT keyT rfl colPT kKey Try.underlying142 b (M + 1) _ _ rfl (HC.out.2.2.1.mp.only HW5.out) (keyV p.src p.dst p.proto p.id) (kl p) rfl (kl_ok HF.out) ?_; intro w6 hm6 ho6)
                    have HD := hide ((HC.out.2.2.1.only HW5.out (by simp) (by simp) (by simp)).dropK HF.out HC.out.1 HC.out.2.1 hm6 ho6)
                    have HZ6 := hide (ho6.blk (HW5.out.blk HC.out.2.2.2.2.2.2.2.1 (by simp)) (by simpa using (HC.out.2.2.1.mp.ne HC.out.2.2.2.2.2.2.2.1).symm))
                    have HO6 := hide (ho6)
                    clear hm6 ho6 f0 f1 f2 f3 f4 f5 f6 f7 ltx r0 ltr c13 lte
                    refine NoX.normal ?_
                    go_wp2_with (refine wpList_store_cells rfl pktT (.tmp 6) (.tmp 95) rfl (w.heap.size + 1) 0 rfl zsP rfl pktT zsP HZ6.out (by exact Nat.le_refl _) (by kernel_rfl) (by simp [Value.oneCell']) ?_; intro v1 hw3)
                    refine bodyPost_ret (results_cell_tmp2 rfl _ _ _ rfl (load_pkt (p := zeroP) (Blk.to hw3.1 (by rfl)))) rfl ?_
                    rw [HM5.out]
                    have hmono : ∀ {S : List Nat} {A B : World}, Only [b] A B → Only (r :: b :: feet l) A B := fun h => h.mono (by intro k hk _; simp at hk ⊢; omega)
                    exact ⟨none, 0, num', dropK l2 p, rfl, fun k x hx => by simp [zeroP] at hx, .none _ _, dropK_map l2 p, HD.out.offp HZ6.out hw3.2.1, HC.out.2.2.2.1, HC.out.2.2.2.2.1,
                      (((HC.out.2.2.2.2.2.2.2.2.1.trans' HW5.out (by simp)).trans (hmono (S := []) HO6.out)).trans' hw3.2.1 (by intro i hi hlt; simp at hi; omega)), fun k hk => HC.out.2.2.2.2.2.2.2.2.2.1 k (feet_sub (dropK_sub l2 p) hk)⟩
                  · have HN64 := hide (show x.2.cnt ≠ 64 by omega)
                    have HM5 : Hid (addM last (l.map (·.2)) p now = if doneB (stepC x.2 p) then ⟨now, (l2.map (·.2)).filter (fun c => !keyB c.h p), wholeP (stepC x.2 p), true, 0⟩
                        else ⟨now, (l2.map (·.2)).map (fun c => if keyB c.h p then stepC x.2 p else c), zeroP, false, 0⟩) := hide (by
                      rw [addM_at HV.out HNOW.out (by have := HL.out; omega) (by have := HNO.out; simpa using this) HC.out.2.2.2.2.2.1 HF.out HC.out.2.2.1.fit HC.out.2.2.1.keys HC.out.1 HC.out.2.1, if_neg (by have := HN64.out; omega)])
                    obtain ⟨f0, f1, f2, f3, f4, f5, f6, f7⟩ := HC.out.2.2.2.2.2.2.1.pkt8
                    have ltx := HC.out.2.2.2.2.2.2.1.lt
                    have hgb : ∀ g o s, p.A = some ⟨g, o, s⟩ → p.data ≠ [] → g ∉ r :: b :: feet l := HA.out.2.2
                    have HAC := hide (show NumsIn wc .u8 p.A p.data from by
                      intro k y hy
                      obtain ⟨g, o, eA, hc⟩ := HA.out.1 k y hy
                      refine ⟨g, o, eA, ?_⟩
                      rw [← hc]
                      exact World.cell?_of_block (HC.out.2.2.2.2.2.2.2.2.1.block g (World.block_lt_of_cell? _ _ hc) (hgb _ _ _ eA (ne_of_get hy))))
                    have HNE := hide (show ∀ g o s, p.A = some ⟨g, o, s⟩ → p.data ≠ [] → g ≠ x.1.e ∧ x.1.vd.ownBlock ≠ some g ∧ x.1.vh.ownBlock ≠ some g from by
                      intro g o s eA hne
                      have hg := hgb g o s eA hne
                      have hlt : g < w.heap.size := by
                        obtain ⟨g2, o2, e2, hc2⟩ := HA.out.1 0 (p.data[0]'(List.length_pos_iff.2 hne)) (List.getElem?_eq_getElem _)
                        rw [eA] at e2
                        injection e2 with e2
                        injection e2 with e2
                        rw [e2]
                        exact World.block_lt_of_cell? _ _ hc2
                      have hno : g ∉ foot x.1 := fun hm => by
                        rcases HC.out.2.2.2.2.2.2.2.2.2.1 g (mem_feet.2 ⟨x, HC.out.1, hm⟩) with h1 | h1
                        · exact hg (by simp [h1])
                        · omega
                      exact ⟨fun h => hno (mem_foot.2 (.inl h)), fun h => hno (mem_foot.2 (.inr (.inl h))), fun h => hno (mem_foot.2 (.inr (.inr h)))⟩)
                    have HBW := hide (show base ≤ wc.heap.size from Nat.le_trans HC.out.2.2.1.rb (Nat.le_of_lt HC.out.2.2.1.me.lt))
                    have HFX := hide (HC.out.2.2.1.fit x HC.out.1)
                    clear hgb
                    go_wp2_with fail
                    refine (cadd_ok base x.1 x.2 p _ HC.out.2.2.2.2.2.2.2.2.2.2 HBW.out HV.out HFX.out.d (by have := HFX.out.n; omega) HAC.out HNE.out).mono ?_
                    intro e w5 hs5
                    obtain ⟨v5, z5, rfl, hz5, hin5, hR5, ho5, hf5⟩ := hs5.rz HC.out.2.2.1 HF.out HC.out.1 HC.out.2.1 HV.out HN64.out
                    have hCo := complete_ok base z5 (stepC x.2 p) w5 (hR5.cols _ hin5) (hR5.fit _ hin5).d
                    rw [hz5] at hCo
                    have hkd : ∀ {k cs}, Blk wc k pktT cs → k ∉ foot x.1 := fun hB hm => by
                      obtain ⟨t, cs', hB2, -, h2, -⟩ := HC.out.2.2.2.2.2.2.2.2.2.2.kind hm
                      exact hB.ne hB2 (Ne.symm h2) rfl
                    have HO5 := hide (show Only (r :: b :: feet l) w w5 from HC.out.2.2.2.2.2.2.2.2.1.trans' ho5 (by
                      intro i hi hlt
                      rcases HC.out.2.2.2.2.2.2.2.2.2.1 i (mem_feet.2 ⟨x, HC.out.1, hi⟩) with h1 | h1
                      · exact List.mem_cons_of_mem _ (List.mem_cons_of_mem _ h1)
                      · omega))
                    have HF5 := hide (show ∀ k ∈ feet (putK l2 p (z5, stepC x.2 p)), k ∈ feet l ∨ w.heap.size ≤ k from by
                      intro k hk
                      obtain ⟨y, hy, hky⟩ := mem_feet.1 hk
                      obtain ⟨y0, hy0, rfl⟩ := List.mem_map.1 hy
                      by_cases hb : keyB y0.2.h p = true
                      · simp only [if_pos hb] at hky
                        rcases hf5 k hky with h1 | h1
                        · exact HC.out.2.2.2.2.2.2.2.2.2.1 k (mem_feet.2 ⟨x, HC.out.1, h1⟩)
                        · exact .inr (Nat.le_trans HC.out.2.2.2.2.2.2.2.2.1.size h1)
                      · simp only [if_neg hb] at hky
                        exact HC.out.2.2.2.2.2.2.2.2.2.1 k (mem_feet.2 ⟨y0, hy0, hky⟩))
                    have HR5 := hide (show _ ∧ _ ∧ _ ∧ _ from ⟨hR5, hin5, ho5.blk HC.out.2.2.2.2.2.2.1 (hkd HC.out.2.2.2.2.2.2.1), ho5.blk HC.out.2.2.2.2.2.2.2.1 (hkd HC.out.2.2.2.2.2.2.2.1)⟩)
                    have HCo := hide hCo
                    clear hs5 hR5 hin5 ho5 hf5 hCo hkd f0 f1 f2 f3 f4 f5 f6 f7 ltx c13 lte h64
                    go_wp2_with fail
                    refine HCo.out.mono ?_
                    rintro e w6 ⟨rfl, ho6⟩
                    by_cases hdn : doneB (stepC x.2 p) = true
                    · have HM6 := hide (HM5.out.trans (if_pos hdn))
                      have HDN := hide hdn
                      rw [hdn]
                      have HR6 := hide (show _ ∧ _ ∧ _ from ⟨HR5.out.1.only ho6 (by simp) (by simp) (by simp), ho6.blk HR5.out.2.2.1 (by simp), ho6.blk HR5.out.2.2.2 (by simp)⟩)
                      have HO6 := hide (HO5.out.trans' ho6 (by simp))
                      obtain ⟨f0, f1, f2, f3, f4, f5, f6, f7⟩ := HR6.out.2.1.pkt8
                      have ltx := HR6.out.2.1.lt
                      have r0 := HR6.out.1.me.cell (i := 0) rfl
                      have ltr := HR6.out.1.me.lt
                      clear hdn ho6
                      go_wp2
                      refine wp_region_text 6 [5] [0, 1, 2] [3] (fun w' => w'.cell? ⟨r, 0, none⟩ = some (.map (some b))) (by kernel_rfl) (by kernel_rfl) (by go_simp) ?_
                      simp only [List.take_succ_cons, List.take_zero, List.drop_succ_cons, List.drop_zero]
                      repeat (first | ((refine wpText_h rfl rfl ?_; apply Exists.intro; refine ⟨?_, ?_⟩; next => (go_simp; (try (go_bits; go_simp)); (first | done | with_reducible rfl | (rw [if_neg (by omega)]; (try (go_bits; go_simp)); (first | done | with_reducible rfl)) | (rw [if_pos (by omega)]; (try (go_bits; go_simp)); (first | done | with_reducible rfl))))); (try simp only [Act.put, List.setIfInBounds_toArray, List.set_cons_zero, List.set_cons_succ])) | ((refine wpText_p rfl rfl ?_; apply Exists.intro; refine ⟨?_, ?_⟩; next => (intro w'; go_simp; (try (go_bits; go_simp)); (first | done | with_reducible rfl | (rw [if_neg (by omega)]; (try (go_bits; go_simp)); (first | done | with_reducible rfl)) | (rw [if_pos (by omega)]; (try (go_bits; go_simp)); (first | done | with_reducible rfl))))); (try simp only [Act.put, List.setIfInBounds_toArray, List.set_cons_zero, List.set_cons_succ])) | ((refine wpText_y rfl rfl ?_; apply Exists.intro; refine ⟨?_, ?_⟩; next => (intro w' hS; (first | obtain ⟨_, rfl⟩ := hS | skip); go_simp; (try (go_bits; go_simp)); (first | done | with_reducible rfl | (rw [if_neg (by omega)]; (try (go_bits; go_simp)); (first | done | with_reducible rfl)) | (rw [if_pos (by omega)]; (try (go_bits; go_simp)); (first | done | with_reducible rfl))))); (try simp only [Act.put, List.setIfInBounds_toArray, List.set_cons_zero, List.set_cons_succ])) | (refine wpText_skip (by first | exact .inl rfl | exact .inr (.inl rfl) | exact .inr (.inr rfl)) rfl ?_; (try simp only [Act.put, List.setIfInBounds_toArray, List.set_cons_zero, List.set_cons_succ])))
                      refine wpText_e rfl rfl (fun K hK => ?_)
                      go_wp2_with fail
                      refine (key_ok p _).mono ?_
                      rintro e w7 ⟨rfl, ho7⟩
                      refine hK _ _ ((ho7.blk HR6.out.1.me.drew (by simp)).cell (i := 0) rfl) ?_
                      clear hK K
                      repeat (first | ((refine wpText_h rfl rfl ?_; apply Exists.intro; refine ⟨?_, ?_⟩; next => (go_simp; (try (go_bits; go_simp)); (first | done | with_reducible rfl | (rw [if_neg (by omega)]; (try (go_bits; go_simp)); (first | done | with_reducible rfl)) | (rw [if_pos (by omega)]; (try (go_bits; go_simp)); (first | done | with_reducible rfl))))); (try simp only [Act.put, List.setIfInBounds_toArray, List.set_cons_zero, List.set_cons_succ])) | ((refine wpText_p rfl rfl ?_; apply Exists.intro; refine ⟨?_, ?_⟩; next => (intro w'; go_simp; (try (go_bits; go_simp)); (first | done | with_reducible rfl | (rw [if_neg (by omega)]; (try (go_bits; go_simp)); (first | done | with_reducible rfl)) | (rw [if_pos (by omega)]; (try (go_bits; go_simp)); (first | done | with_reducible rfl))))); (try simp only [Act.put, List.setIfInBounds_toArray, List.set_cons_zero, List.set_cons_succ])) | ((refine wpText_y rfl rfl ?_; apply Exists.intro; refine ⟨?_, ?_⟩; next => (intro w' hS; (first | obtain ⟨_, rfl⟩ := hS | skip); go_simp; (try (go_bits; go_simp)); (first | done | with_reducible rfl | (rw [if_neg (by omega)]; (try (go_bits; go_simp)); (first | done | with_reducible rfl)) | (rw [if_pos (by omega)]; (try (go_bits; go_simp)); (first | done | with_reducible rfl))))); (try simp only [Act.put, List.setIfInBounds_toArray, List.set_cons_zero, List.set_cons_succ])) | (refine wpText_skip (by first | exact .inl rfl | exact .inr (.inl rfl) | exact .inr (.inr rfl)) rfl ?_; (try simp only [Act.put, List.setIfInBounds_toArray, List.set_cons_zero, List.set_cons_succ])))
                      refine wpText_nil ?_
                      have HW7 := hide (show Only [] _ w7 from (Only.refl [] _).drew.trans ho7)
                      clear ho7
                      go_wp2_with (refine wpList_ptr_drop _ rfl (.tmp 106) (.tmp 108) rzmT keyT rfl colPT kKey Try.underlying142 b (M + 1) _ _ rfl (HR6.out.1.mp.only HW7.out) (keyV p.src p.dst p.proto p.id) (kl p) rfl (kl_ok HF.out) ?_; intro w8 hm8 ho8)
                      have hR7 := HR6.out.1.only HW7.out (by simp) (by simp) (by simp)
                      have hk5 : kl (stepC x.2 p).h = kl p := HC.out.2.1
                      have HD := hide (hR7.dropK HF.out HR5.out.2.1 hk5 hm8 ho8)
                      have hnb : ∀ {k t cs}, Blk w7 k t cs → k ∉ [b] := fun hB => by simpa using (hR7.mp.ne hB).symm
                      have HC8 := hide (show ColAt base w8 z5 (stepC x.2 p) from (hR7.cols _ HR5.out.2.1).only ho8 (fun k hk => by simpa using (hR7.far HR5.out.2.1 hk).2))
                      have HZ8 := hide (ho8.blk (HW7.out.blk HR6.out.2.2 (by simp)) (hnb (HW7.out.blk HR6.out.2.2 (by simp))))
                      have HO8 := hide (show Only (r :: b :: feet l) w w8 from (HO6.out.trans' HW7.out (by simp)).trans (ho8.mono (by intro k hk _; simp at hk ⊢; omega)))
                      clear hm8 ho8 hR7 hk5 hnb f0 f1 f2 f3 f4 f5 f6 f7 ltx r0 ltr
                      refine NoX.normal ?_
                      obtain ⟨m, hm⟩ : ∃ m : Nat, (stepC x.2 p).len = (m : Int) := ⟨(stepC x.2 p).len.toNat, by have := HDN.out; unfold doneB at this; simp at this; omega⟩
                      have hme8 := HC8.out.me
                      rw [hz5] at hme8
                      have c2 := hme8.cell (i := 2) rfl
                      have c3 := hme8.cell (i := 3) rfl
                      have c4 := hme8.cell (i := 4) rfl
                      have c5 := hme8.cell (i := 5) rfl
                      have c6 := hme8.cell (i := 6) rfl
                      have c7 := hme8.cell (i := 7) rfl
                      have c8 := hme8.cell (i := 8) rfl
                      have c9 := hme8.cell (i := 9) rfl
                      have c10 := hme8.cell (i := 10) rfl
                      have c12 := hme8.cell (i := 12) rfl
                      rw [hm] at c12
                      have lte := hme8.lt
                      go_upto_region 25 with (fail)
                      obtain ⟨A10, cp, hvd⟩ := off_shape HC8.out.dr
                      rw [hvd] at c10
                      have HVD := hide hvd
                      obtain ⟨k12, hk12⟩ : ∃ k, k = w8.heap.size := ⟨_, rfl⟩
                      have HK12 := hide hk12
                      have HB8 := hide (show Blk (w8.alloc (.cells zsP.toArray pktT)) w8.heap.size pktT zsP from Blk.newA (by simp))
                      clear hvd hk12
                      go_wp2_with (refine wpList_store_cells rfl pktT (.tmp 12) (.tmp 112) rfl w8.heap.size 0 rfl [.int .u32 (stepC x.2 p).h.src, .int .u32 (stepC x.2 p).h.dst, I64 (stepC x.2 p).h.proto, I64 (stepC x.2 p).h.ttl, I64 (stepC x.2 p).h.id, I64 (stepC x.2 p).h.off, .bool (stepC x.2 p).h.more, .slice z5.fA z5.fn z5.fc] rfl pktT zsP HB8.out (by exact Nat.le_refl _) (by kernel_rfl) (by simp [Value.oneCell']) ?_; intro v9 hw9)
                      have hb9 : Blk v9 k12 pktT [.int .u32 (stepC x.2 p).h.src, .int .u32 (stepC x.2 p).h.dst, I64 (stepC x.2 p).h.proto, I64 (stepC x.2 p).h.ttl, I64 (stepC x.2 p).h.id, I64 (stepC x.2 p).h.off, .bool (stepC x.2 p).h.more, .slice z5.fA z5.fn z5.fc] := by rw [HK12.out]; exact Blk.to hw9.1 (by rfl)
                      have ho9 : Only [] w8 v9 := ((Only.refl [] w8).alloc _).trans' hw9.2.1 (by intro i hi hlt; simp at hi; omega)
                      have H9 := hide (show _ ∧ _ ∧ _ ∧ _ ∧ _ from ⟨hb9, ho9, HD.out.only ho9 (by simp) (by simp) (by simp), HC8.out.only ho9 (by simp), ho9.blk HZ8.out (by simp)⟩)
                      rw [← HK12.out]
                      clear hb9 ho9 hw9 c2 c3 c4 c5 c6 c7 c8 c9 c10 c12 lte hme8
                      have hme9 := H9.out.2.2.2.1.me
                      rw [hz5] at hme9
                      have c10 := hme9.cell (i := 10) rfl
                      rw [HVD.out] at c10
                      have c12 := hme9.cell (i := 12) rfl
                      rw [hm] at c12
                      have lte := hme9.lt
                      have hne : ¬ x.1.e = k12 := hme9.ne H9.out.1 (by decide)
                      have hdr9 := H9.out.2.2.2.1.dr
                      rw [HVD.out] at hdr9
                      obtain ⟨D, hD⟩ : ∃ D, D = (stepC x.2 p).data.length := ⟨_, rfl⟩
                      rw [← hD] at hdr9 c10
                      have hmD : m ≤ D := by have := HDN.out; unfold doneB at this; simp at this; omega
                      have hcp : D ≤ cp := by
                        rcases hdr9.2 with ⟨e1, e2⟩ | ⟨g, o, cap', cs, e1, -, -, hc, -⟩
                        · omega
                        · injection e1 with e1 e2 e3; omega
                      have H10 := hide (show _ ∧ _ ∧ _ from ⟨hdr9, hD, hm⟩)
                      have m0 : (0 : Int) ≤ (m : Int) := by omega
                      have m1 : ((m : Nat) : Int) ≤ ((cp : Nat) : Int) := by omega
                      have m2 : m ≤ cp := by omega
                      have n0 := H9.out.1.cell (i := 0) rfl
                      have n1 := H9.out.1.cell (i := 1) rfl
                      have n2 := H9.out.1.cell (i := 2) rfl
                      have n3 := H9.out.1.cell (i := 3) rfl
                      have n4 := H9.out.1.cell (i := 4) rfl
                      have n5 := H9.out.1.cell (i := 5) rfl
                      have n6 := H9.out.1.cell (i := 6) rfl
                      have n7 := H9.out.1.cell (i := 7) rfl
                      have z5' := H9.out.1.frozen 5
                      have z6' := H9.out.1.frozen 6
                      have z7' := H9.out.1.frozen 7
                      have ltk := H9.out.1.lt
                      clear hme9 hdr9 hD hm
                      refine wp_region_text 18 [14, 16] [0, 1, 2, 4, 5, 6, 8, 9, 10, 12] [3, 7, 11] (fun w' => w'.cell? ⟨x.1.e, 10, none⟩ = some (.slice A10 D cp) ∧ w'.cell? ⟨x.1.e, 12, none⟩ = some (I64 (m : Int))) (by kernel_rfl) (by kernel_rfl) ⟨c10, c12⟩ ?_
                      simp only [List.take_succ_cons, List.take_zero, List.drop_succ_cons, List.drop_zero]
                      repeat (first | ((refine wpText_h rfl rfl ?_; apply Exists.intro; refine ⟨?_, ?_⟩; next => (go_simp; (try (go_bits; go_simp)); (first | done | with_reducible rfl | (rw [if_neg (by omega)]; (try (go_bits; go_simp)); (first | done | with_reducible rfl)) | (rw [if_pos (by omega)]; (try (go_bits; go_simp)); (first | done | with_reducible rfl))))); (try simp only [Act.put, List.setIfInBounds_toArray, List.set_cons_zero, List.set_cons_succ])) | ((refine wpText_p rfl rfl ?_; apply Exists.intro; refine ⟨?_, ?_⟩; next => (intro w'; go_simp; (try (go_bits; go_simp)); (first | done | with_reducible rfl | (rw [if_neg (by omega)]; (try (go_bits; go_simp)); (first | done | with_reducible rfl)) | (rw [if_pos (by omega)]; (try (go_bits; go_simp)); (first | done | with_reducible rfl))))); (try simp only [Act.put, List.setIfInBounds_toArray, List.set_cons_zero, List.set_cons_succ])) | ((refine wpText_y rfl rfl ?_; apply Exists.intro; refine ⟨?_, ?_⟩; next => (intro w' hS; (first | obtain ⟨_, rfl⟩ := hS | skip); go_simp; (try (go_bits; go_simp)); (first | done | with_reducible rfl | (rw [if_neg (by omega)]; (try (go_bits; go_simp)); (first | done | with_reducible rfl)) | (rw [if_pos (by omega)]; (try (go_bits; go_simp)); (first | done | with_reducible rfl))))); (try simp only [Act.put, List.setIfInBounds_toArray, List.set_cons_zero, List.set_cons_succ])) | (refine wpText_skip (by first | exact .inl rfl | exact .inr (.inl rfl) | exact .inr (.inr rfl)) rfl ?_; (try simp only [Act.put, List.setIfInBounds_toArray, List.set_cons_zero, List.set_cons_succ])))
                      refine wpText_e rfl rfl (fun K hK => ?_)
                      go_wp2
                      refine hK _ _ ⟨by go_simp, by go_simp⟩ ?_
                      clear hK K
                      (try simp only [Act.put, List.setIfInBounds_toArray, List.set_cons_zero, List.set_cons_succ])
                      repeat (first | ((refine wpText_h rfl rfl ?_; apply Exists.intro; refine ⟨?_, ?_⟩; next => (go_simp; (try (go_bits; go_simp)); (first | done | with_reducible rfl | (rw [if_neg (by omega)]; (try (go_bits; go_simp)); (first | done | with_reducible rfl)) | (rw [if_pos (by omega)]; (try (go_bits; go_simp)); (first | done | with_reducible rfl))))); (try simp only [Act.put, List.setIfInBounds_toArray, List.set_cons_zero, List.set_cons_succ])) | ((refine wpText_p rfl rfl ?_; apply Exists.intro; refine ⟨?_, ?_⟩; next => (intro w'; go_simp; (try (go_bits; go_simp)); (first | done | with_reducible rfl | (rw [if_neg (by omega)]; (try (go_bits; go_simp)); (first | done | with_reducible rfl)) | (rw [if_pos (by omega)]; (try (go_bits; go_simp)); (first | done | with_reducible rfl))))); (try simp only [Act.put, List.setIfInBounds_toArray, List.set_cons_zero, List.set_cons_succ])) | ((refine wpText_y rfl rfl ?_; apply Exists.intro; refine ⟨?_, ?_⟩; next => (intro w' hS; (first | obtain ⟨_, rfl⟩ := hS | skip); go_simp; (try (go_bits; go_simp)); (first | done | with_reducible rfl | (rw [if_neg (by omega)]; (try (go_bits; go_simp)); (first | done | with_reducible rfl)) | (rw [if_pos (by omega)]; (try (go_bits; go_simp)); (first | done | with_reducible rfl))))); (try simp only [Act.put, List.setIfInBounds_toArray, List.set_cons_zero, List.set_cons_succ])) | (refine wpText_skip (by first | exact .inl rfl | exact .inr (.inl rfl) | exact .inr (.inr rfl)) rfl ?_; (try simp only [Act.put, List.setIfInBounds_toArray, List.set_cons_zero, List.set_cons_succ])))
                      refine wpText_e rfl rfl (fun K hK => ?_)
                      go_wp2
                      refine hK _ _ ⟨by go_simp, by go_simp⟩ ?_
                      clear hK K
                      (try simp only [Act.put, List.setIfInBounds_toArray, List.set_cons_zero, List.set_cons_succ])
                      repeat (first | ((refine wpText_h rfl rfl ?_; apply Exists.intro; refine ⟨?_, ?_⟩; next => (go_simp; (try (go_bits; go_simp)); (first | done | with_reducible rfl | (rw [if_neg (by omega)]; (try (go_bits; go_simp)); (first | done | with_reducible rfl)) | (rw [if_pos (by omega)]; (try (go_bits; go_simp)); (first | done | with_reducible rfl))))); (try simp only [Act.put, List.setIfInBounds_toArray, List.set_cons_zero, List.set_cons_succ])) | ((refine wpText_p rfl rfl ?_; apply Exists.intro; refine ⟨?_, ?_⟩; next => (intro w'; go_simp; (try (go_bits; go_simp)); (first | done | with_reducible rfl | (rw [if_neg (by omega)]; (try (go_bits; go_simp)); (first | done | with_reducible rfl)) | (rw [if_pos (by omega)]; (try (go_bits; go_simp)); (first | done | with_reducible rfl))))); (try simp only [Act.put, List.setIfInBounds_toArray, List.set_cons_zero, List.set_cons_succ])) | ((refine wpText_y rfl rfl ?_; apply Exists.intro; refine ⟨?_, ?_⟩; next => (intro w' hS; (first | obtain ⟨_, rfl⟩ := hS | skip); go_simp; (try (go_bits; go_simp)); (first | done | with_reducible rfl | (rw [if_neg (by omega)]; (try (go_bits; go_simp)); (first | done | with_reducible rfl)) | (rw [if_pos (by omega)]; (try (go_bits; go_simp)); (first | done | with_reducible rfl))))); (try simp only [Act.put, List.setIfInBounds_toArray, List.set_cons_zero, List.set_cons_succ])) | (refine wpText_skip (by first | exact .inl rfl | exact .inr (.inl rfl) | exact .inr (.inr rfl)) rfl ?_; (try simp only [Act.put, List.setIfInBounds_toArray, List.set_cons_zero, List.set_cons_succ])))
                      refine wpText_nil ?_
                      go_wp2
                      refine NoX.normal ?_
                      have hlen : ((stepC x.2 p).data.take (stepC x.2 p).len.toNat).length = m := by rw [H10.out.2.2, List.length_take, ← H10.out.2.1]; simp; omega
                      have hq : ((wholeP (stepC x.2 p)).at A10 m).cells = [.int .u32 (stepC x.2 p).h.src, .int .u32 (stepC x.2 p).h.dst, I64 (stepC x.2 p).h.proto, I64 (stepC x.2 p).h.ttl, I64 (stepC x.2 p).h.id, I64 0, .bool false, .slice A10 m m] := by
                        show [Value.int .u32 (stepC x.2 p).h.src, Value.int .u32 (stepC x.2 p).h.dst, I64 (stepC x.2 p).h.proto, I64 (stepC x.2 p).h.ttl, I64 (stepC x.2 p).h.id, I64 0, Value.bool false, Value.slice A10 ((stepC x.2 p).data.take (stepC x.2 p).len.toNat).length m] = _
                        rw [hlen]
                      obtain ⟨W9, hW9⟩ : ∃ W, W = (((v9.setCell ⟨k12, 5, none⟩ (I64 0)).setCell ⟨k12, 6, none⟩ (.bool false)).setCell ⟨k12, 7, none⟩ (.slice A10 m m)).drew := ⟨_, rfl⟩
                      rw [show (((v9.setCell ⟨k12, 5, none⟩ (I64 0)).setCell ⟨k12, 6, none⟩ (.bool false)).setCell ⟨k12, 7, none⟩ (.slice A10 m m)).drew = W9 from hW9.symm]
                      have o9 : Only [k12] v9 W9 := by rw [hW9]; exact ((((Only.refl [k12] v9).set (p := ⟨k12, 5, none⟩) (.inl (by simp)) _).set (p := ⟨k12, 6, none⟩) (.inl (by simp)) _).set (p := ⟨k12, 7, none⟩) (.inl (by simp)) _).drew
                      have b9 : Blk W9 k12 pktT [.int .u32 (stepC x.2 p).h.src, .int .u32 (stepC x.2 p).h.dst, I64 (stepC x.2 p).h.proto, I64 (stepC x.2 p).h.ttl, I64 (stepC x.2 p).h.id, I64 0, .bool false, .slice A10 m m] := by rw [hW9]; exact Blk.to (((H9.out.1.set 5 _).set 6 _).set 7 _).drew (by rfl)
                      have hzk : w.heap.size + 1 ≠ k12 := by have := HZ8.out.lt; rw [HK12.out]; omega
                      have zb9 := o9.blk H9.out.2.2.2.2 (by simpa using hzk)
                      have H11 := hide (show _ ∧ _ ∧ _ ∧ _ ∧ _ ∧ _ from ⟨o9, b9, zb9, hq, HK12.out, hmD⟩)
                      have s0 := b9.cell (i := 0) rfl
                      have s1 := b9.cell (i := 1) rfl
                      have s2 := b9.cell (i := 2) rfl
                      have s3 := b9.cell (i := 3) rfl
                      have s4 := b9.cell (i := 4) rfl
                      have s5 := b9.cell (i := 5) rfl
                      have s6 := b9.cell (i := 6) rfl
                      have s7 := b9.cell (i := 7) rfl
                      have lts := b9.lt
                      clear n0 n1 n2 n3 n4 n5 n6 n7 z5' z6' z7' ltk c10 c12 lte hW9 o9 b9 zb9 hq hlen hzk
                      go_wp2_with (refine wpList_store_cells rfl pktT (.tmp 6) (.tmp 129) rfl (w.heap.size + 1) 0 rfl [.int .u32 (stepC x.2 p).h.src, .int .u32 (stepC x.2 p).h.dst, I64 (stepC x.2 p).h.proto, I64 (stepC x.2 p).h.ttl, I64 (stepC x.2 p).h.id, I64 0, .bool false, .slice A10 m m] rfl pktT zsP H11.out.2.2.1 (by exact Nat.le_refl _) (by kernel_rfl) (by simp [Value.oneCell']) ?_; intro v1 hw3)
                      refine bodyPost_ret (results_cell_tmp2 rfl _ _ _ rfl (load_pkt (p := (wholeP (stepC x.2 p)).at A10 m) (Blk.to hw3.1 (by rw [H11.out.2.2.2.1]; rfl)))) rfl ?_
                      rw [HM6.out]
                      have hrow := off_take H10.out.1 hmD
                      rw [Nat.mul_one] at hrow
                      have hrow2 := off_only hrow H11.out.1 (fun k hk => by simp only [List.mem_singleton]; intro e; exact off_ne_blk hrow H9.out.1 (by decide) (e ▸ hk))
                      have hrow3 := off_only hrow2 hw3.2.1 (fun k hk => by simp only [List.mem_singleton]; intro e; exact off_ne_blk hrow2 H11.out.2.2.1 (by decide) (e ▸ hk))
                      have hnum : NumsIn v1 .u8 A10 (wholeP (stepC x.2 p)).data := by
                        have h5 : (bcells (stepC x.2 p).data).take m = bcells ((stepC x.2 p).data.take (stepC x.2 p).len.toNat) := by rw [H10.out.2.2]; simp [bcells, List.map_take]
                        rw [h5] at hrow3
                        exact nums_of_off hrow3
                      have hdp : dropK (putK l2 p (z5, stepC x.2 p)) p = dropK l2 p := dropK_put l2 p _ ((keyB_iff HFX.out.h HF.out).2 HC.out.2.1)
                      have hRZ := (H9.out.2.2.1.offp H9.out.1 H11.out.1).offp H11.out.2.2.1 hw3.2.1
                      rw [hdp] at hRZ
                      refine ⟨A10, m, num', dropK l2 p, rfl, hnum, .off hrow3, dropK_map l2 p, hRZ, HC.out.2.2.2.1, HC.out.2.2.2.2.1, ?_, fun k hk => HC.out.2.2.2.2.2.2.2.2.2.1 k (feet_sub (dropK_sub l2 p) hk)⟩
                      exact ((HO8.out.trans' H9.out.2.1 (by simp)).trans' H11.out.1 (by intro i hi hlt; have h1 := H11.out.2.2.2.2.1; have h2 := HO8.out.size; simp at hi; omega)).trans' hw3.2.1 (by intro i hi hlt; simp at hi; omega)
                    · have HM6 := hide (HM5.out.trans (if_neg hdn))
                      have hdn2 : doneB (stepC x.2 p) = false := by simpa using hdn
                      rw [hdn2]
                      have HZ6 := hide (ho6.blk HR5.out.2.2.2 (by simp))
                      have HO6 := hide ho6
                      clear hdn hdn2 ho6
                      go_wp2_with (refine wpList_store_cells rfl pktT (.tmp 6) (.tmp 102) rfl (w.heap.size + 1) 0 rfl zsP rfl pktT zsP HZ6.out (by exact Nat.le_refl _) (by kernel_rfl) (by simp [Value.oneCell']) ?_; intro v1 hw3)
                      refine bodyPost_ret (results_cell_tmp2 rfl _ _ _ rfl (load_pkt (p := zeroP) (Blk.to hw3.1 (by rfl)))) rfl ?_
                      rw [HM6.out]
                      exact ⟨none, 0, num', putK l2 p (z5, stepC x.2 p), rfl, fun k x hx => by simp [zeroP] at hx, .none _ _, putK_map l2 p _, (HR5.out.1.only HO6.out (by simp) (by simp) (by simp)).offp HZ6.out hw3.2.1, HC.out.2.2.2.1, HC.out.2.2.2.2.1,
                        ((HO5.out.trans' HO6.out (by simp)).trans' hw3.2.1 (by intro i hi hlt; simp at hi; omega)), HF5.out⟩
          · intro key kl' c w2 cnt2 hkey hlk hfc hrg2 hlt ho2 hs2 hen
            obtain ⟨x, hx, hkx, hex⟩ := fL_inv hfc
            have hxl := (keep_sub now left l).subset hx
            have hfit := HH.out.fit x hxl
            have hkk : key = keyV x.2.h.src x.2.h.dst x.2.h.proto x.2.h.id := kKey.inj hkey (by rw [← hkx]; exact kl_ok hfit.h)
            subst hkk hkx hex
            have hE2 := HW.out.step ho2 (fun k hk => .inr (by rw [List.mem_singleton.1 hk]; exact ⟨fun t cs hB => absurd rfl (hrg.ne_blk hB), HR.out⟩)) (fun t cs hB => absurd rfl (hrg.map.ne hB))
            have hB2 : Blk (w2.alloc (.cells zsK.toArray keyT)) w2.heap.size keyT zsK := Blk.newA (by simp)
            have HXF := hide (show _ ∧ _ ∧ _ ∧ _ from ⟨hxl, hfit, hE2, hB2⟩)
            obtain ⟨k9, hk9⟩ : ∃ k, k = w2.heap.size := ⟨_, rfl⟩
            have HK9 := hide hk9
            have HTK := hide (show 0 ≤ now ∧ now ≤ 1099511627776 by have ht := HT.out; unfold tickB at ht; simpa using ht)
            have e1 : IntKind.i64.wrap (now - x.2.bg) = now - x.2.bg := by have h1 := HTK.out; have h2 := hfit.b; simp [IntKind.wrap, IntKind.bits, IntKind.signed]; omega
            have HST := hide (show ∀ v3, StoredCells (w2.alloc (.cells zsK.toArray keyT)) w2.heap.size 0 keyT zsK (kcells x.2.h) v3 → Only [] w2 v3 ∧ ExpAt base r b num now l p w v3 ∧ Blk v3 k9 keyT (kcells x.2.h) from fun v3 hw3 => by
              have ho3 : Only [] w2 v3 := ((Only.refl [] w2).alloc _).trans' hw3.2.1 (by intro i hi hlt; simp at hi; omega)
              exact ⟨ho3, HXF.out.2.2.1.step ho3 (by simp) (fun t cs hB => absurd rfl (hrg2.map.ne hB)), by rw [HK9.out]; exact Blk.to hw3.1 (by rfl)⟩)
            clear hxl hfit hE2 hB2 hs2 hk9 hfc ho2
            by_cases hage : (600 : Int) ≤ now - x.2.bg
            · have HAGE := hide (show ¬ now - x.2.bg < 600 by omega)
              go_wp2_with (refine wpList_store_cells rfl keyT (.tmp 9) (.tmp 47) rfl w2.heap.size 0 rfl (kcells x.2.h) rfl keyT zsK HXF.out.2.2.2 (by exact Nat.le_refl _) (by kernel_rfl) (by simp [Value.oneCell']) ?_; intro v3 hw3; have HV := hide (HST.out v3 hw3); have c0 := (HV.out.2.1.2.1 x HXF.out.1).me.cell (i := 0) rfl; have lt0 := (HV.out.2.1.2.1 x HXF.out.1).me.lt)
              rw [← HK9.out]
              have r0 := HV.out.2.1.1.cell (i := 0) rfl
              have ltr := HV.out.2.1.1.lt
              have y0 := HV.out.2.2.cell (i := 0) rfl
              have y1 := HV.out.2.2.cell (i := 1) rfl
              have y2 := HV.out.2.2.cell (i := 2) rfl
              have y3 := HV.out.2.2.cell (i := 3) rfl
              have lt9 := HV.out.2.2.lt
              refine wp_region_text 5 [] [] [] (fun _ => True) (by kernel_rfl) (by kernel_rfl) trivial ?_
              simp only [List.take_succ_cons, List.take_zero, List.drop_succ_cons, List.drop_zero]
              repeat (first | ((refine wpText_h rfl rfl ?_; apply Exists.intro; refine ⟨?_, ?_⟩; next => (go_simp; (try (go_bits; go_simp)); (first | done | with_reducible rfl | (rw [if_neg (by omega)]; (try (go_bits; go_simp)); (first | done | with_reducible rfl)) | (rw [if_pos (by omega)]; (try (go_bits; go_simp)); (first | done | with_reducible rfl))))); (try simp only [Act.put, List.setIfInBounds_toArray, List.set_cons_zero, List.set_cons_succ])) | ((refine wpText_p rfl rfl ?_; apply Exists.intro; refine ⟨?_, ?_⟩; next => (intro w'; go_simp; (try (go_bits; go_simp)); (first | done | with_reducible rfl | (rw [if_neg (by omega)]; (try (go_bits; go_simp)); (first | done | with_reducible rfl)) | (rw [if_pos (by omega)]; (try (go_bits; go_simp)); (first | done | with_reducible rfl))))); (try simp only [Act.put, List.setIfInBounds_toArray, List.set_cons_zero, List.set_cons_succ])) | ((refine wpText_y rfl rfl ?_; apply Exists.intro; refine ⟨?_, ?_⟩; next => (intro w' hS; (first | obtain ⟨_, rfl⟩ := hS | skip); go_simp; (try (go_bits; go_simp)); (first | done | with_reducible rfl | (rw [if_neg (by omega)]; (try (go_bits; go_simp)); (first | done | with_reducible rfl)) | (rw [if_pos (by omega)]; (try (go_bits; go_simp)); (first | done | with_reducible rfl))))); (try simp only [Act.put, List.setIfInBounds_toArray, List.set_cons_zero, List.set_cons_succ])) | (refine wpText_skip (by first | exact .inl rfl | exact .inr (.inl rfl) | exact .inr (.inr rfl)) rfl ?_; (try simp only [Act.put, List.setIfInBounds_toArray, List.set_cons_zero, List.set_cons_succ])))
              refine wpText_nil ?_
              go_wp2_with (refine wpList_rng_drop _ rfl (.tmp 59) (.tmp 60) rzmT keyT rfl colPT kKey Try.underlying142 b R M _ _ _ cnt2 rfl ((hrg2.only HV.out.1 (by simp) (by simp)).only (Only.refl [] v3).drew (by simp) (by simp)) (keyV x.2.h.src x.2.h.dst x.2.h.proto x.2.h.id) (kl x.2.h) rfl (kl_ok HXF.out.2.1.h) ?_; intro v4 cnt4 hrg4 hc4 ho4)
              have hrg5 : PtrRange v4 keyT b R M (keepL now (fun z => left z && !z.sameKey (kl x.2.h)) l).length (fL (keepL now (fun z => left z && !z.sameKey (kl x.2.h)) l)) (fun z => left z && !z.sameKey (kl x.2.h)) cnt4 := by
                have h5 := hrg4
                rw [Maps.strike_twice, if_pos (by rw [fL_mem (HH.out.keys.sublist (keep_sub now left l)) hx]; rfl)] at h5
                obtain ⟨k1, k2⟩ := keep_old (now := now) HH.out.keys HXF.out.1 (kKey.key (kl_ok HXF.out.2.1.h)) hlk (by have := HAGE.out; omega)
                rw [k1, k2]
                exact h5
              have HE4 := hide (HV.out.2.1.step ((Only.refl [b] v3).drew.trans ho4) (fun k hk => .inl (by simpa using hk)) (fun t cs hB => absurd rfl ((hrg2.only HV.out.1 (by simp) (by simp)).map.ne hB)))
              clear hrg4 ho4
              refine NoX.normal ?_
              go_wp2
              go_roundw
              case rel => exact ⟨_, cnt4, hrg5, HE4⟩
              case measure => rw [hrg5.left_eq, hrg.left_eq]; omega
            · have HAGE := hide (show now - x.2.bg < 600 by omega)
              go_wp2_with (refine wpList_store_cells rfl keyT (.tmp 9) (.tmp 47) rfl w2.heap.size 0 rfl (kcells x.2.h) rfl keyT zsK HXF.out.2.2.2 (by exact Nat.le_refl _) (by kernel_rfl) (by simp [Value.oneCell']) ?_; intro v3 hw3; have HV := hide (HST.out v3 hw3); have c0 := (HV.out.2.1.2.1 x HXF.out.1).me.cell (i := 0) rfl; have lt0 := (HV.out.2.1.2.1 x HXF.out.1).me.lt)
              have hrg3 := hrg2.only HV.out.1 (by simp) (by simp)
              go_roundw
              case rel => exact ⟨_, cnt2, by rw [keep_young HH.out.keys HXF.out.1 HAGE.out]; exact hrg3, hide HV.out.2.1⟩
              case measure => rw [hrg3.left_eq, hrg.left_eq]; exact hlt
    · rw [hv]
      have HO : Hid (addM last (l.map (·.2)) p now = ⟨last, l.map (·.2), zeroP, false, 34⟩) := hide (by unfold addM; rw [if_pos (.inr (by unfold tickB at ht; simpa using ht))])
      have HT := hide (show tickB now = false by simpa using ht)
      clear hv ht
      go_wp2_with fail
      refine (ticks_ok now _).mono ?_
      rintro e w2 ⟨rfl, rfl⟩
      rw [HT.out]
      go_wp2_with (refine wpList_store_cells rfl pktT (.tmp 6) (.tmp 26) rfl (w.heap.size + 1) 0 rfl zsP rfl pktT zsP HR1.out.2.2.1 (by exact Nat.le_refl _) (by kernel_rfl) (by simp [Value.oneCell']) ?_; intro v1 hw3)
      refine bodyPost_ret (results_cell_tmp2 rfl _ _ _ rfl (load_pkt (p := zeroP) (Blk.to hw3.1 (by rfl)))) rfl ?_
      refine add_none (HR1.out.2.2.2.offp HR1.out.2.2.1 hw3.2.1) (HR1.out.1.trans' hw3.2.1 (by intro i hi hlt; simp at hi; omega)) HO.out
  · have hv34 : p.valid = 34 := by
      by_cases hb : p.bad
      · exact Pkt.valid_bad hb
      · exact absurd (Pkt.valid_good hb) hv
    rw [hv34]
    have HO : Hid (addM last (l.map (·.2)) p now = ⟨last, l.map (·.2), zeroP, false, 34⟩) := hide (by unfold addM; rw [if_pos (.inl hv)])
    clear hv hv34
    go_wp2_with (refine wpList_store_cells rfl pktT (.tmp 6) (.tmp 26) rfl (w.heap.size + 1) 0 rfl zsP rfl pktT zsP HR1.out.2.2.1 (by exact Nat.le_refl _) (by kernel_rfl) (by simp [Value.oneCell']) ?_; intro v1 hw3)
    refine bodyPost_ret (results_cell_tmp2 rfl _ _ _ rfl (load_pkt (p := zeroP) (Blk.to hw3.1 (by rfl)))) rfl ?_
    refine add_none (HR1.out.2.2.2.offp HR1.out.2.2.1 hw3.2.1) (HR1.out.1.trans' hw3.2.1 (by intro i hi hlt; simp at hi; omega)) HO.out

end Go.Proofs.Ytlnejlhdkmneeaa
