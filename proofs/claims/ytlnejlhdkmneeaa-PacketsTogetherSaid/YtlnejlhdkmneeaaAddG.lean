/- The reassembly: what Add does, in plain words; the list after the old have gone. -/
import Derived.Test.YtlnejlhdkmneeaaAddF
namespace Go.Proofs.Ytlnejlhdkmneeaa
open Go.RowKit

def zeroP : Pkt := ⟨0, 0, 0, 0, 0, 0, false, none, 0, []⟩
structure AddOut where
  clock : Int
  l : List Col
  q : Pkt
  ok : Bool
  err : Int
def keyB (a b : Pkt) : Bool := decide (a.src = b.src ∧ a.dst = b.dst ∧ a.proto = b.proto ∧ a.id = b.id)
def expC (now : Int) (l : List Col) : List Col := l.filter fun c => decide (now - c.bg < 600)
def roomC (l : List Col) : List Col := if 16 ≤ l.length then l.drop 1 else l
def wholeP (c : Col) : Pkt := { c.h with off := 0, more := false, data := c.data.take c.len.toNat }
/-- What Add makes of its list. -/
def addM (last : Int) (l : List Col) (p : Pkt) (now : Int) : AddOut :=
  if p.valid ≠ 0 ∨ ¬ (0 ≤ now ∧ now ≤ 1099511627776) then ⟨last, l, zeroP, false, 34⟩
  else if now < last then ⟨last, l, zeroP, false, 30⟩
  else if p.off = 0 ∧ p.more = false then ⟨now, expC now l, p, true, 0⟩
  else
    let l2 := if (expC now l).any (fun c => keyB c.h p) then expC now l else roomC (expC now l) ++ [⟨p, now, [], [], -1, 0⟩]
    match l2.find? (fun c => keyB c.h p) with
    | none => ⟨now, l2, zeroP, false, 0⟩
    | some c =>
      if c.cnt = 64 then ⟨now, l2.filter (fun x => !keyB x.h p), zeroP, false, 18⟩
      else if doneB (stepC c p) then ⟨now, l2.filter (fun x => !keyB x.h p), wholeP (stepC c p), true, 0⟩
      else ⟨now, l2.map (fun x => if keyB x.h p then stepC c p else x), zeroP, false, 0⟩

theorem keyB_iff {a b : Pkt} (ha : PFit a) (hb : PFit b) : keyB a b = true ↔ kl a = kl b := by
  unfold keyB
  rw [decide_eq_true_iff]
  exact ⟨kl_of, kl_eq ha hb⟩

/-- What of the list is left while the old are taken away. -/
noncomputable def keepL (now : Int) (left : Lit → Bool) (l : List PC) : List PC := l.filter fun x => left (kl x.2.h) || decide (now - x.2.bg < 600)
def expL (now : Int) (l : List PC) : List PC := l.filter fun x => decide (now - x.2.bg < 600)
theorem keep_all {now : Int} {left : Lit → Bool} {l : List PC} (h : ∀ x ∈ l, left (kl x.2.h) = true) : keepL now left l = l := by
  unfold keepL
  rw [List.filter_eq_self]
  intro x hx
  simp [h x hx]
theorem keep_none {now : Int} {left : Lit → Bool} {l : List PC} (h : ∀ k, left k = false) : keepL now left l = expL now l := by
  unfold keepL expL
  congr 1
  funext x
  simp [h]
theorem exp_map (now : Int) (l : List PC) : (expL now l).map (·.2) = expC now (l.map (·.2)) := by
  unfold expL expC
  rw [List.filter_map]
  rfl
theorem keep_sub (now : Int) (left : Lit → Bool) (l : List PC) : (keepL now left l).Sublist l := List.filter_sublist
theorem exp_sub (now : Int) (l : List PC) : (expL now l).Sublist l := List.filter_sublist
/-- A young one stays. -/
theorem keep_young {now : Int} {left : Lit → Bool} {l : List PC} {x : PC} (hk : l.Pairwise fun x y => kl x.2.h ≠ kl y.2.h) (hx : x ∈ l) (hy : now - x.2.bg < 600) :
    keepL now (fun z => left z && !z.sameKey (kl x.2.h)) l = keepL now left l := by
  unfold keepL
  refine List.filter_congr fun y hyl => ?_
  by_cases e : (kl y.2.h).sameKey (kl x.2.h) = true
  · have := keys_eq hk hyl hx (WideAt.sameKey_eq e)
    subst this
    simp [hy]
  · simp at e
    simp [e]
/-- An old one goes. -/
theorem keep_old {now : Int} {left : Lit → Bool} {l : List PC} {x : PC} (hk : l.Pairwise fun x y => kl x.2.h ≠ kl y.2.h) (hx : x ∈ l) (hf : WideAt.IsKeyLit (kl x.2.h)) (hl : left (kl x.2.h) = true) (hy : ¬ now - x.2.bg < 600) :
    fL (keepL now (fun z => left z && !z.sameKey (kl x.2.h)) l) = updF (fL (keepL now left l)) (kl x.2.h) none ∧
      (keepL now (fun z => left z && !z.sameKey (kl x.2.h)) l).length = (keepL now left l).length - 1 := by
  have e : keepL now (fun z => left z && !z.sameKey (kl x.2.h)) l = (keepL now left l).filter (fun y => !(kl y.2.h).sameKey (kl x.2.h)) := by
    unfold keepL
    rw [List.filter_filter]
    refine List.filter_congr fun y hyl => ?_
    by_cases e : (kl y.2.h).sameKey (kl x.2.h) = true
    · have := keys_eq hk hyl hx (WideAt.sameKey_eq e)
      subst this
      simp [e, hy]
    · simp at e
      simp [e]
  have hm : x ∈ keepL now left l := by unfold keepL; rw [List.mem_filter]; exact ⟨hx, by simp [hl]⟩
  constructor
  · rw [e]
    refine fL_drop _ fun y hyl => ?_
    rw [Bool.not_eq_true', ← Bool.not_eq_true, WideAt.sameKey_iff hf]
  · rw [e]
    have hk2 := hk.sublist (keep_sub now left l)
    generalize keepL now left l = l2 at hk2 hm
    induction l2 with
    | nil => cases hm
    | cons a r ih =>
      obtain ⟨h1, h2⟩ := List.pairwise_cons.1 hk2
      rcases List.mem_cons.1 hm with rfl | h3
      · have hs : (kl x.2.h).sameKey (kl x.2.h) = true := WideAt.sameKey_self hf
        rw [List.filter_cons]
        simp only [hs]
        rw [List.filter_eq_self.2 (fun y hy => by
          rw [Bool.not_eq_true', ← Bool.not_eq_true, WideAt.sameKey_iff hf]
          exact (h1 y hy).symm)]
        simp
      · have hs : (!(kl a.2.h).sameKey (kl x.2.h)) = true := by
          rw [Bool.not_eq_true', ← Bool.not_eq_true, WideAt.sameKey_iff hf]
          exact h1 x h3
        rw [List.filter_cons, if_pos hs, List.length_cons, ih h2 h3, List.length_cons]
        have : 0 < r.length := List.length_pos_of_mem h3
        omega
theorem RzAt.offp {base r b M : Nat} {w w' : World} {num last : Int} {l : List PC} (h : RzAt base r b M w num last l) {k : Nat} {cs : List Value} (hk : Blk w k pktT cs) (ho : Only [k] w w') : RzAt base r b M w' num last l :=
  h.only ho (by simpa using h.me.ne hk (by decide)) (by simpa using h.mp.ne hk) (fun j hj => by
    obtain ⟨x, hx, hj⟩ := mem_feet.1 hj
    obtain ⟨t, cs', hb, -, h2, -⟩ := (h.cols x hx).kind hj
    simpa using hb.ne hk h2)
theorem RzAt.sub {base r b M : Nat} {w w' : World} {num last last' : Int} {l l' : List PC} (h : RzAt base r b M w num last l) (hs : l'.Sublist l) (hme : Blk w' r rasT [.map (some b), I64 num, I64 last']) (hm : PtrMap w' keyT b M l'.length (fL l')) (hc : ∀ x ∈ l, ColAt base w' x.1 x.2) :
    RzAt base r b M w' num last' l' :=
  ⟨hme, hm, fun x hx => hc x (hs.subset hx), h.apart.sublist hs, h.keys.sublist hs, h.nums.sublist hs, fun x hx => h.top x (hs.subset hx), fun x hx => h.fit x (hs.subset hx), h.rb, h.bb⟩

end Go.Proofs.Ytlnejlhdkmneeaa
