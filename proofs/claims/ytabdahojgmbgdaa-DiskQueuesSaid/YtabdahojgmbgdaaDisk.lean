/- The disk: its model, its memory. -/
import Derived.Test.YtabdahojgmbgdaaRows
import Derived.Test.YtabdahojgmbgdaaWords
import Derived.Test.YtabdahojgmbgdaaDraw
import Derived.Test.YtabdahojgmbgdaaFblk
import Derived.Test.YtabdahojgmbgdaaOnlyT
import Derived.Test.YtabdahojgmbgdaaOff
import Derived.WalkLawsBesides
import Derived.Deep.QuietTactic
import Derived.BigQuiet
import Derived.BigRegion
import Derived.IntWalk
import Derived.StillTailTactics
import Derived.Deep.RegionWith
import Derived.Deep.RegionHeld3
import Derived.Deep.LoopGhost
import Derived.OwnWalk
import Derived.Laws.AppendOwn
import Derived.Laws.CopyOwn
import Derived.Laws.Entries
import Derived.BigFrame
namespace Go.Proofs.Ytabdahojgmbgdaa
open Go.RowKit

abbrev I64 (n : Int) : Value := .int .i64 n
abbrev dskT : TypeId := 111
abbrev wrT : TypeId := 114
abbrev blkT : TypeId := 49
abbrev u8T : TypeId := 5

theorem wrap8 (n : Int) : IntKind.u8.wrap n = n % 256 := by simp [IntKind.wrap, IntKind.bits, IntKind.signed]
theorem wrap64 {n : Int} (h : -9223372036854775808 ≤ n) (h2 : n ≤ 9223372036854775807) : IntKind.i64.wrap n = n := by simp [IntKind.wrap, IntKind.bits, IntKind.signed]; omega

section
variable {α : Type}
theorem flat_at {enc : α → List Value} {sz : Nat} : ∀ (xs : List α) (_ : ∀ x ∈ xs, (enc x).length = sz) (k : Nat) (x : α) (j : Nat) (v : Value), xs[k]? = some x → (enc x)[j]? = some v → (xs.flatMap enc)[k * sz + j]? = some v
  | [], _, k, x, j, v, h, _ => by simp at h
  | y :: ys, _, 0, x, j, v, h, hv => by
    simp at h; subst h
    rw [List.flatMap_cons, Nat.zero_mul, Nat.zero_add, List.getElem?_append_left]
    · exact hv
    · exact (List.getElem?_eq_some_iff.1 hv).1
  | y :: ys, hs, k + 1, x, j, v, h, hv => by
    simp at h
    have h1 := hs y (by simp)
    rw [List.flatMap_cons, List.getElem?_append_right (by rw [h1, Nat.add_mul]; omega), h1, show (k + 1) * sz + j - sz = k * sz + j by rw [Nat.add_mul]; omega]
    exact flat_at ys (fun x hx => hs x (by simp [hx])) k x j v h hv
theorem flat_len {enc : α → List Value} {sz : Nat} : ∀ (xs : List α) (_ : ∀ x ∈ xs, (enc x).length = sz), (xs.flatMap enc).length = xs.length * sz
  | [], _ => by simp
  | x :: xs, hs => by rw [List.flatMap_cons, List.length_append, hs x (by simp), flat_len xs (fun x hx => hs x (by simp [hx])), List.length_cons, Nat.add_mul]; omega
/-- One of equal parts is replaced. -/
theorem flat_set {enc : α → List Value} {sz : Nat} : ∀ (xs : List α) (_ : ∀ x ∈ xs, (enc x).length = sz) (k : Nat) (y : α), k < xs.length → (enc y).length = sz → ((xs.set k y).flatMap enc) = (xs.flatMap enc).take (k * sz) ++ enc y ++ (xs.flatMap enc).drop (k * sz + (enc y).length)
  | [], _, k, y, h, _ => by simp at h
  | x :: xs, hs, 0, y, _, hy => by
    have h1 := hs x (by simp)
    rw [List.set_cons_zero, List.flatMap_cons, List.flatMap_cons, Nat.zero_mul, Nat.zero_add, List.take_zero, List.nil_append, hy, ← h1, List.drop_left]
  | x :: xs, hs, k + 1, y, h, hy => by
    have h1 := hs x (by simp)
    rw [List.set_cons_succ, List.flatMap_cons, List.flatMap_cons, flat_set xs (fun x hx => hs x (by simp [hx])) k y (by simpa using h) hy,
      show (k + 1) * sz = (enc x).length + k * sz by rw [h1, Nat.add_mul]; omega, show (enc x).length + k * sz + (enc y).length = (enc x).length + (k * sz + (enc y).length) by omega, List.take_length_add_append, List.drop_length_add_append]
    simp
end

/-- Bytes as cells. -/
def bcells (l : List Nat) : List Value := l.map fun (x : Nat) => Value.int .u8 (x : Int)
theorem bcells_at {l : List Nat} {k x : Nat} (h : l[k]? = some x) : (bcells l)[k]? = some (.int .u8 (x : Int)) := by simp [bcells, h]
theorem bcells_len (l : List Nat) : (bcells l).length = l.length := by simp [bcells]
theorem bcells_app (a b : List Nat) : bcells (a ++ b) = bcells a ++ bcells b := by simp [bcells]
theorem bcells_take (n : Nat) (a : List Nat) : (bcells a).take n = bcells (a.take n) := by simp [bcells]
theorem bcells_drop (n : Nat) (a : List Nat) : (bcells a).drop n = bcells (a.drop n) := by simp [bcells]
theorem bcells_set (l : List Nat) (i x : Nat) : bcells (l.set i x) = (bcells l).set i (.int .u8 (x : Int)) := by simp [bcells, List.map_set]
theorem bcells_one (l : List Nat) : ∀ v ∈ bcells l, v.oneCell' = true := by
  intro v hv
  simp only [bcells, List.mem_map] at hv
  obtain ⟨x, -, rfl⟩ := hv
  rfl

theorem mem_own {v : Value} {k : Nat} : k ∈ v.ownBlock.toList ↔ v.ownBlock = some k := by cases h : v.ownBlock <;> simp [eq_comm]
theorem offT' {w : World} {base : Nat} {e : TypeId} {size n : Nat} {v : Value} {xs : List Value} (h : offRow w base e size v n xs) {k : Nat} (hk : v.ownBlock = some k) : ∃ cs, Blk w k e cs := by
  rcases h.2 with ⟨rfl, -⟩ | ⟨g, o, cap, cs, rfl, -, h3, -⟩
  · simp [Value.ownBlock] at hk
  · obtain rfl : g = k := by simpa [Value.ownBlock] using hk
    exact ⟨cs, h3⟩
/-- A row is as it was where another kind's row has turned. -/
theorem off_apart {w w' : World} {base b2 : Nat} {e e2 : TypeId} {size s2 n n2 : Nat} {v v2 : Value} {xs x2 : List Value} (h : offRow w base e size v n xs) (h2 : offRow w b2 e2 s2 v2 n2 x2) (he : e ≠ e2) (ho : Only v2.ownBlock.toList w w') : offRow w' base e size v n xs :=
  off_only h ho fun k hk hm => by
    obtain ⟨c1, h3⟩ := offT' h hk
    obtain ⟨c2, h4⟩ := offT' h2 (mem_own.1 hm)
    exact absurd rfl (h3.ne h4 he)
theorem off_apart_blk {w w' : World} {base g : Nat} {e t : TypeId} {size n : Nat} {v : Value} {xs cs : List Value} (h : offRow w base e size v n xs) (hg : Blk w g t cs) (he : e ≠ t) (ho : Only [g] w w') : offRow w' base e size v n xs :=
  off_only h ho fun k hk hm => by
    obtain ⟨c1, h3⟩ := offT' h hk
    simp at hm
    subst hm
    exact absurd rfl (h3.ne hg he)

/-- A write in the cache. -/
abbrev WB := Nat × List Nat
def wcell (x : WB) : List Value := I64 (x.1 : Nat) :: bcells x.2
theorem wcell_len {x : WB} (h : x.2.length = 64) : (wcell x).length = 65 := by simp [wcell, bcells_len, h]

/-- The disk. -/
structure Dk where
  bs : List (List Nat)
  cache : List WB
  off : Bool
  left : Int
  script : List Nat
  wr : Int

/-- Where it lies. -/
structure DP where
  d : Nat
  vb : Value
  vc : Value
  vs : Value

structure DkOk (D : Dk) : Prop where
  hb : ∀ b ∈ D.bs, b.length = 64
  hc : ∀ x ∈ D.cache, x.1 < D.bs.length ∧ x.2.length = 64
  pos : 0 < D.bs.length
  most : D.bs.length ≤ 4096
  cm : D.cache.length ≤ 4096
  sm : D.script.length ≤ 1000000000
  s8 : ∀ x ∈ D.script, x < 256
  lf : 0 ≤ D.left ∧ D.left ≤ 1073741824

def Dk.cells (D : Dk) (p : DP) : List Value := [p.vb, p.vc, .bool D.off, I64 D.left, p.vs, .int .i64 D.wr]

structure DkAt (base : Nat) (w : World) (p : DP) (D : Dk) : Prop where
  me : Blk w p.d dskT (D.cells p)
  br : offRow w base blkT 64 p.vb D.bs.length (D.bs.flatMap bcells)
  cr : offRow w base wrT 65 p.vc D.cache.length (D.cache.flatMap wcell)
  sr : offRow w base u8T 1 p.vs D.script.length (bcells D.script)
  ok : DkOk D

/-- The first error of an access. -/
def Dk.code (D : Dk) (b : Int) : Int := if D.off then 15 else if b < 0 ∨ (D.bs.length : Int) ≤ b then 34 else 0

theorem DkAt.ptr {base : Nat} {w : World} {p : DP} {D : Dk} (h : DkAt base w p D) : ∃ g o c cs, p.vb = .slice (some ⟨g, o, none⟩) D.bs.length c ∧ Blk w g blkT cs ∧ o + D.bs.length * 64 ≤ cs.length ∧ (cs.drop o).take (D.bs.length * 64) = D.bs.flatMap bcells :=
  off_blk h.br h.ok.pos
theorem DkAt.keep {base : Nat} {w w' : World} {p : DP} {D : Dk} (h : DkAt base w p D) (ho : Only [] w w') : DkAt base w' p D :=
  ⟨ho.blk h.me (by simp), off_keep h.br ho, off_keep h.cr ho, off_keep h.sr ho, h.ok⟩
/-- What the disk's blocks are. -/
def DP.foot (p : DP) : List Nat := p.d :: (p.vb.ownBlock.toList ++ (p.vc.ownBlock.toList ++ p.vs.ownBlock.toList))
theorem DP.foot_d (p : DP) : p.d ∈ p.foot := by simp [DP.foot]
theorem DP.foot_b (p : DP) {k : Nat} (h : p.vb.ownBlock = some k) : k ∈ p.foot := by simp [DP.foot, h]
theorem DP.foot_c (p : DP) {k : Nat} (h : p.vc.ownBlock = some k) : k ∈ p.foot := by simp [DP.foot, h]
theorem DP.foot_s (p : DP) {k : Nat} (h : p.vs.ownBlock = some k) : k ∈ p.foot := by simp [DP.foot, h]
theorem DkAt.only {S : List Nat} {base : Nat} {w w' : World} {p : DP} {D : Dk} (h : DkAt base w p D) (ho : Only S w w') (hn : ∀ k, k ∈ p.foot → k ∉ S) : DkAt base w' p D :=
  ⟨ho.blk h.me (hn _ p.foot_d), off_only h.br ho fun k hk => hn k (p.foot_b hk), off_only h.cr ho fun k hk => hn k (p.foot_c hk), off_only h.sr ho fun k hk => hn k (p.foot_s hk), h.ok⟩

set_option maxHeartbeats 1000000 in
theorem usable_ok (base : Nat) (w : World) (p : DP) (D : Dk) (b : Int) (h : DkAt base w p D) : Calls Try.prog 46 #[.pointer (some ⟨p.d, 0, none⟩), I64 b] w fun e w' => e = .returned (I64 (D.code b)) ∧ w' = w := by
  obtain ⟨g, o, c, cs, hv, -, -, -⟩ := h.ptr
  have hme := h.me
  unfold Dk.cells at hme
  rw [hv] at hme
  have c0 := hme.cell (i := 0) rfl
  have c2 := hme.cell (i := 2) rfl
  have hl := hme.lt
  obtain ⟨n, hn⟩ : ∃ n, n = D.bs.length := ⟨_, rfl⟩
  have hc : Hid (D.code b = if D.off then 15 else if b < 0 ∨ (n : Int) ≤ b then 34 else 0) := hide (by unfold Dk.code; rw [hn])
  rw [← hn] at c0
  obtain ⟨f, hf⟩ : ∃ f, f = D.off := ⟨_, rfl⟩
  rw [← hf] at c2 hc
  have hnn : n ≤ 4096 := by rw [hn]; exact h.ok.most
  clear hf hme hv hn h
  cases f with
  | true =>
    go_enter Try.func46, Try.ntmps46
    go_wp2
    go_ret
    rw [hc.out]; exact ⟨rfl, rfl⟩
  | false =>
    by_cases h1 : b < 0
    · go_enter Try.func46, Try.ntmps46
      go_wp2
      go_ret
      rw [hc.out, if_neg (by decide), if_pos (.inl h1)]; exact ⟨rfl, rfl⟩
    · by_cases h2 : (n : Int) ≤ b
      · go_enter Try.func46, Try.ntmps46
        go_wp2
        go_ret
        rw [hc.out, if_neg (by decide), if_pos (.inr h2)]; exact ⟨rfl, rfl⟩
      · go_enter Try.func46, Try.ntmps46
        go_wp2
        go_ret
        rw [hc.out, if_neg (by decide), if_neg (by omega)]; exact ⟨rfl, rfl⟩

end Go.Proofs.Ytabdahojgmbgdaa
