/- Closures that are asked of each element; lists of structs in a block. -/
import Derived.Test.YtacnmlifmjflfaaRows
import Derived.Test.YtacnmlifmjflfaaWords
import Derived.Test.YtacnmlifmjflfaaDraw
import Derived.Test.YtacnmlifmjflfaaFblk
import Derived.Test.YtacnmlifmjflfaaOnlyT
import Derived.Test.YtacnmlifmjflfaaClear
import Derived.WalkLawsBesides
import Derived.Deep.QuietTactic
import Derived.BigQuiet
import Derived.BigRegion
import Derived.IntWalk
import Derived.StillTailTactics
import Derived.Deep.RegionWith
import Derived.Deep.RegionHeld3
import Derived.Deep.LoopGhost
import Derived.OwnWalk
import Derived.Laws.AppendOwn
namespace Go.Proofs.Ytacnmlifmjflfaa
open Go.RowKit

theorem OnlyT.grown {Ts : List TypeId} {base b0 : Nat} {w w' : World} {e : TypeId} {size n : Nat} {v : Value} {xs : List Value} (own : w.ownsRow b0 e size v n xs) (he : e ∈ Ts) (hb : base ≤ b0) (hg : w.grownBy w' v.ownBlock) : OnlyT Ts base w w' :=
  ⟨hg.os, hg.tape, hg.output, hg.size, fun k hk hE => hg.block k hk fun e => by
    obtain ⟨h1, h2⟩ := own_hasT own he hb k e.symm
    rcases hE with hE | hE
    · omega
    · exact hE h2⟩

abbrev I64 (n : Int) : Value := .int .i64 n

section
variable {α σ : Type}
/-- The first element that is wanted, asked one behind the other; the state of who answers. -/
def findS (p : σ → α → Bool) (f : σ → α → σ) : σ → List α → Nat → Option Nat × σ
  | s, [], _ => (none, s)
  | s, x :: xs, k => if p s x then (some k, f s x) else findS p f (f s x) xs (k + 1)
/-- What stays, and the state behind. -/
def keepS (p : σ → α → Bool) (f : σ → α → σ) : σ → List α → List α × σ
  | s, [] => ([], s)
  | s, x :: xs => if p s x then keepS p f (f s x) xs else (x :: (keepS p f (f s x) xs).1, (keepS p f (f s x) xs).2)
theorem keepS_yes {p : σ → α → Bool} {f : σ → α → σ} {s : σ} {x : α} {xs : List α} (h : p s x = true) : keepS p f s (x :: xs) = keepS p f (f s x) xs := by
  rw [keepS, if_pos h]
theorem keepS_no {p : σ → α → Bool} {f : σ → α → σ} {s : σ} {x : α} {xs : List α} (h : ¬ p s x = true) : keepS p f s (x :: xs) = (x :: (keepS p f (f s x) xs).1, (keepS p f (f s x) xs).2) := by
  rw [keepS, if_neg h]
theorem findS_yes {p : σ → α → Bool} {f : σ → α → σ} {s : σ} {x : α} {xs : List α} {k : Nat} (h : p s x = true) : findS p f s (x :: xs) k = (some k, f s x) := by
  rw [findS, if_pos h]
theorem findS_no {p : σ → α → Bool} {f : σ → α → σ} {s : σ} {x : α} {xs : List α} {k : Nat} (h : ¬ p s x = true) : findS p f s (x :: xs) k = findS p f (f s x) xs (k + 1) := by
  rw [findS, if_neg h]
theorem findS_none {p : σ → α → Bool} {f : σ → α → σ} : ∀ {xs : List α} {s s' : σ} {k : Nat}, findS p f s xs k = (none, s') → keepS p f s xs = (xs, s')
  | [], s, s', k, h => by simp [findS] at h; simp [keepS, h]
  | x :: xs, s, s', k, h => by
    by_cases hp : p s x = true
    · rw [findS_yes hp] at h; simp at h
    · rw [findS_no hp] at h
      rw [keepS_no hp, findS_none h]
theorem findS_some {p : σ → α → Bool} {f : σ → α → σ} : ∀ {xs : List α} {s s' : σ} {k i : Nat}, findS p f s xs k = (some i, s') →
    k ≤ i ∧ i < k + xs.length ∧ keepS p f s xs = (xs.take (i - k) ++ (keepS p f s' (xs.drop (i - k + 1))).1, (keepS p f s' (xs.drop (i - k + 1))).2)
  | [], s, s', k, i, h => by simp [findS] at h
  | x :: xs, s, s', k, i, h => by
    by_cases hp : p s x = true
    · rw [findS_yes hp] at h
      simp at h
      obtain ⟨rfl, rfl⟩ := h
      refine ⟨by omega, by simp, ?_⟩
      rw [keepS_yes hp]
      simp
    · rw [findS_no hp] at h
      obtain ⟨h1, h2, h3⟩ := findS_some h
      refine ⟨by omega, by simp; omega, ?_⟩
      rw [keepS_no hp, h3, show i - k = (i - (k + 1)) + 1 by omega]
      simp

theorem findS_lim {p : σ → α → Bool} {f : σ → α → σ} {lim : σ → Nat} (hl : ∀ s x, lim s ≤ lim (f s x) + 1) : ∀ {xs : List α} {s s' : σ} {k i : Nat}, findS p f s xs k = (some i, s') → lim s + k ≤ lim s' + i + 1
  | [], s, s', k, i, h => by simp [findS] at h
  | x :: xs, s, s', k, i, h => by
    by_cases hp : p s x = true
    · rw [findS_yes hp] at h
      simp at h
      obtain ⟨rfl, rfl⟩ := h
      have := hl s x
      omega
    · rw [findS_no hp] at h
      have := findS_lim hl h
      have := hl s x
      omega

/-- Only the row g may have changed, and it is a row of the kind T before and behind. -/
def OnlyG (g : Nat) (T : TypeId) (w w' : World) : Prop := Only [g] w w' ∧ (∃ cs, Blk w g T cs) ∧ ∃ cs, Blk w' g T cs
theorem OnlyG.same {g : Nat} {T : TypeId} {w w' : World} {cs : List Value} (h : Only [] w w') (hb : Blk w g T cs) : OnlyG g T w w' := ⟨h.mono (by simp), ⟨_, hb⟩, ⟨_, h.blk hb (by simp)⟩⟩
theorem OnlyG.stored {g off : Nat} {T : TypeId} {w w' : World} {cs vs : List Value} (h : StoredCells w g off T cs vs w') (hb : Blk w g T cs) : OnlyG g T w w' := ⟨h.2.1, ⟨_, hb⟩, ⟨_, h.1⟩⟩

/-- A closure that answers p and goes from s to f s x; block g is nothing to it. -/
structure PredOk (F : FuncId) (caps : Array Value) (enc : α → List Value) (g : Nat) (T : TypeId) (X : α → Prop) (R : σ → World → Prop) (lim : σ → Nat) (p : σ → α → Bool) (f : σ → α → σ) : Prop where
  left : ∀ s x, lim s ≤ lim (f s x) + 1
  enter : ∀ (args : Array Value) (w : World), Sem.run Try.prog (callFunc F args) w = .ok (.enter F args) w
  call : ∀ s x w0 w, X x → 0 < lim s → R s w0 → OnlyG g T w0 w → Calls Try.prog F (#[.agg (enc x).toArray] ++ caps) w fun e w' => e = .returned (.bool (p s x)) ∧ R (f s x) w' ∧ w'.heap[g]? = w.heap[g]? ∧
    (∀ k cs, w0.heap.size ≤ k → Blk w k T cs → Blk w' k T cs) ∧ w.heap.size ≤ w'.heap.size
  stable : ∀ s w w', R s w → OnlyG g T w w' → R s w'

/-- The place as slices.IndexFunc answers it. -/
def fres : Option Nat → Int
  | none => -1
  | some i => i

/-- What was taken, with one more or not. -/
def tookS (b : Bool) (out : List α) (x : α) : List α :=
  match b with
  | true => out ++ [x]
  | false => out

/-- A closure that a caller gives: it changes blocks of the kinds Us alone; what it knows leans on no block of the kinds Vs. -/
structure WantOk (base : Nat) (F : FuncId) (caps : Array Value) (enc : α → List Value) (Us Vs : List TypeId) (X : α → Prop) (R : σ → World → Prop) (lim : σ → Nat) (p : σ → α → Bool) (f : σ → α → σ) : Prop where
  left : ∀ s x, lim s ≤ lim (f s x) + 1
  enter : ∀ (args : Array Value) (w : World), Sem.run Try.prog (callFunc F args) w = .ok (.enter F args) w
  call : ∀ s x w, X x → 0 < lim s → R s w → Calls Try.prog F (#[.agg (enc x).toArray] ++ caps) w fun e w' => e = .returned (.bool (p s x)) ∧ R (f s x) w' ∧ OnlyT Us base w w'
  stable : ∀ s w w', R s w → OnlyT Vs base w w' → R s w'

theorem OnlyG.onlyT {base g : Nat} {T : TypeId} {Vs : List TypeId} {w w' : World} (h : OnlyG g T w w') (hT : T ∈ Vs) (hg : base ≤ g) : OnlyT Vs base w w' := .of_only h.1 (by
  intro k hk _
  obtain ⟨cs, hb⟩ := h.2.1
  obtain rfl : k = g := by simpa using hk
  exact ⟨hg, hb.hasT hT⟩)

theorem WantOk.framed {base : Nat} {F : FuncId} {caps : Array Value} {enc : α → List Value} {Us Vs Ws : List TypeId} {X : α → Prop} {R : σ → World → Prop} {lim : σ → Nat} {p : σ → α → Bool} {f : σ → α → σ} (h : WantOk base F caps enc Us Vs X R lim p f) (w0 : World)
    (hu : ∀ t, t ∈ Us → t ∈ Ws) (hv : ∀ t, t ∈ Vs → t ∈ Ws) : WantOk base F caps enc Us Vs X (fun s w => R s w ∧ OnlyT Ws base w0 w) lim p f where
  left := h.left
  enter := h.enter
  call := fun s x w hx hl hR => (h.call s x w hx hl hR.1).mono fun e w' ⟨h1, h2, h3⟩ => ⟨h1, ⟨h2, hR.2.trans (h3.mono hu)⟩, h3⟩
  stable := fun s w w' hR hO => ⟨h.stable s w w' hR.1 hO, hR.2.trans (hO.mono hv)⟩

theorem flat_at {enc : α → List Value} {sz : Nat} (hs : ∀ x, (enc x).length = sz) : ∀ (xs : List α) (k : Nat) (x : α) (j : Nat) (v : Value), xs[k]? = some x → (enc x)[j]? = some v → (xs.flatMap enc)[k * sz + j]? = some v
  | [], k, x, j, v, h, _ => by simp at h
  | y :: ys, 0, x, j, v, h, hv => by
    simp at h; subst h
    rw [List.flatMap_cons, Nat.zero_mul, Nat.zero_add, List.getElem?_append_left]
    · exact hv
    · exact (List.getElem?_eq_some_iff.1 hv).1
  | y :: ys, k + 1, x, j, v, h, hv => by
    simp at h
    rw [List.flatMap_cons, List.getElem?_append_right (by rw [hs, Nat.add_mul]; omega), hs, show (k + 1) * sz + j - sz = k * sz + j by rw [Nat.add_mul]; omega]
    exact flat_at hs ys k x j v h hv
theorem flat_len {enc : α → List Value} {sz : Nat} (hs : ∀ x, (enc x).length = sz) : ∀ xs : List α, (xs.flatMap enc).length = xs.length * sz
  | [] => by simp
  | x :: xs => by rw [List.flatMap_cons, List.length_append, hs, flat_len hs xs, List.length_cons, Nat.add_mul]; omega
theorem flat_set {enc : α → List Value} {sz : Nat} (hs : ∀ x, (enc x).length = sz) : ∀ (xs : List α) (rest : List Value) (k : Nat) (x : α), k < xs.length →
    (xs.flatMap enc ++ rest).take (k * sz) ++ enc x ++ (xs.flatMap enc ++ rest).drop (k * sz + (enc x).length) = (xs.set k x).flatMap enc ++ rest
  | [], rest, k, x, h => by simp at h
  | y :: ys, rest, 0, x, _ => by
    simp only [List.flatMap_cons, Nat.zero_mul, List.take_zero, List.nil_append, Nat.zero_add, List.set_cons_zero, List.append_assoc]
    rw [hs, ← hs y, List.drop_left]
  | y :: ys, rest, k + 1, x, h => by
    have ih := flat_set hs ys rest k x (by simpa using h)
    simp only [List.flatMap_cons, List.set_cons_succ, List.append_assoc] at ih ⊢
    rw [← ih]
    have e1 : (k + 1) * sz = (enc y).length + k * sz := by rw [hs, Nat.add_mul]; omega
    rw [e1, List.take_length_add_append, show (enc y).length + k * sz + (enc x).length = (enc y).length + (k * sz + (enc x).length) by omega, List.drop_length_add_append]
    simp
end

theorem take_set_one {α : Type} (x : α) : ∀ (L : List α) (k : Nat), k < L.length → (L.set k x).take (k + 1) = L.take k ++ [x]
  | [], k, h => by simp at h
  | y :: ys, 0, h => by simp
  | y :: ys, k + 1, h => by
    have := take_set_one x ys k (by simpa using h)
    simp [this]

/-- What is taken, what stays, and the state of who answers. -/
def takeS {σ α : Type} (p : σ → α → Bool) (f : σ → α → σ) (s : σ) (xs : List α) : List α × (σ × List α) :=
  keepS (fun q x => p q.1 x) (fun q x => (f q.1 x, tookS (p q.1 x) q.2 x)) (s, []) xs

theorem row_of_kept {w : World} {base g cap total : Nat} {T : TypeId} {k sz : Nat} {ys : List Value} {rest : List Value} (hg : base ≤ g) (hb : Blk w g T (ys ++ rest)) (hy : ys.length = k * sz) (hk : k ≤ cap) (hc : cap ≤ maxLen)
    (ht : rest.length + k * sz = total) (he : total = cap * sz) : w.ownsRow base T sz (.slice (some ⟨g, 0, none⟩) k cap) k ys :=
  ⟨hy, .inr ⟨g, cap, (ys ++ rest).toArray, rfl, hg, hb, hk, hc, by simp; omega, by simp [← hy]⟩⟩

theorem blk_of_row {w : World} {base g cap n sz : Nat} {T : TypeId} {ys : List Value} (h : w.ownsRow base T sz (.slice (some ⟨g, 0, none⟩) n cap) n ys) :
    base ≤ g ∧ n ≤ cap ∧ cap ≤ maxLen ∧ ∃ rest : List Value, Blk w g T (ys ++ rest) ∧ rest.length + n * sz = cap * sz := by
  obtain ⟨h1, h2⟩ := h
  rcases h2 with ⟨h2, _⟩ | ⟨g', cap', cur, e, hg, hh, hn, hc, hs, ht⟩
  · cases h2
  · injection e with e1 e2 e3
    injection e1 with e1
    injection e1 with e1
    subst e1 e3
    refine ⟨hg, hn, hc, cur.toList.drop (n * sz), ?_, ?_⟩
    · unfold Blk
      rw [hh, ← ht, List.take_append_drop]
    · have : n * sz ≤ cap * sz := Nat.mul_le_mul_right _ hn
      rw [List.length_drop, Array.length_toList, hs]
      omega

structure Armd where
  obj : Int
  cond : Int
  kind : Int
  conn : Int
  prio : Int
  code : Int
  val : Int
  keep : Bool
  id : Int
structure Wtr where
  thread : Int
  la : Option Addr
  lc : Nat
  ins : List (Int × Int)
  dl : Int
def Wtr.l (x : Wtr) : Value := .slice x.la x.ins.length x.lc
def encarmed (x : Armd) : List Value := [I64 x.obj, I64 x.cond, I64 x.kind, I64 x.conn, I64 x.prio, I64 x.code, I64 x.val, .bool x.keep, I64 x.id]
def encwaiter (x : Wtr) : List Value := [I64 x.thread, x.l, I64 x.dl]
def zsarmed : List Value := [I64 0, I64 0, I64 0, I64 0, I64 0, I64 0, I64 0, .bool false, I64 0]
def zswaiter : List Value := [I64 0, .slice none 0 0, I64 0]
abbrev Tyarmed := Armd
abbrev Tywaiter := Wtr

end Go.Proofs.Ytacnmlifmjflfaa
