/- Encode. -/
import Derived.Test.YtlnejlhdkmneeaaWalkF0
namespace Go.Proofs.Ytlnejlhdkmneeaa
open Go.RowKit

/-- The bytes of a packet's header, with a checksum. -/
def hd (p : Pkt) (s : Nat) (j : Nat) : Nat :=
  match j with
  | 0 => 4
  | 1 => p.proto.toNat
  | 2 => p.ttl.toNat
  | 3 => if p.more then 1 else 0
  | 4 => p.data.length / 256
  | 5 => p.data.length % 256
  | 6 => p.id.toNat / 256
  | 7 => p.id.toNat % 256
  | 8 => p.off.toNat / 256
  | 9 => p.off.toNat % 256
  | 10 => s / 256
  | 11 => s % 256
  | 12 => p.src.toNat / 16777216
  | 13 => p.src.toNat / 65536 % 256
  | 14 => p.src.toNat / 256 % 256
  | 15 => p.src.toNat % 256
  | 16 => p.dst.toNat / 16777216
  | 17 => p.dst.toNat / 65536 % 256
  | 18 => p.dst.toNat / 256 % 256
  | 19 => p.dst.toNat % 256
  | _ => 0

/-- What comes in: words of 32 bits, bytes. -/
structure Pkt.Fit (p : Pkt) : Prop where
  src0 : 0 ≤ p.src
  src1 : p.src < 4294967296
  dst0 : 0 ≤ p.dst
  dst1 : p.dst < 4294967296
  bytes : ∀ x ∈ p.data, x ≤ 255

theorem hd_le {p : Pkt} (hf : p.Fit) (hv : ¬ p.bad) {s : Nat} (hs : s ≤ 65535) (k : Nat) : hd p s k ≤ 255 := by
  have h1 := hf.src1
  have h2 := hf.dst1
  unfold Pkt.bad at hv
  unfold hd
  split <;> first | omega | (split <;> omega)

def Pkt.sum (p : Pkt) : Nat := 65535 - sumw (hwords (hd p 0))
def Pkt.bytes (p : Pkt) : List Nat := (List.range 20).map (hd p p.sum) ++ p.data

theorem Pkt.sum_le (p : Pkt) : p.sum ≤ 65535 := by unfold Pkt.sum; omega

abbrev zs20 : List Value := [.int .u8 0, .int .u8 0, .int .u8 0, .int .u8 0, .int .u8 0, .int .u8 0, .int .u8 0, .int .u8 0, .int .u8 0, .int .u8 0, .int .u8 0, .int .u8 0, .int .u8 0, .int .u8 0, .int .u8 0, .int .u8 0, .int .u8 0, .int .u8 0, .int .u8 0, .int .u8 0]
theorem build_hdr (a b : Int) : ∀ w : World, (Instr.build 123 #[(0, .int .u8 4), (1, .int .u8 a), (2, .int .u8 b)]).run Try.prog w = .ok (.agg #[.int .u8 4, .int .u8 a, .int .u8 b, .int .u8 0, .int .u8 0, .int .u8 0, .int .u8 0, .int .u8 0, .int .u8 0, .int .u8 0, .int .u8 0, .int .u8 0, .int .u8 0, .int .u8 0, .int .u8 0, .int .u8 0, .int .u8 0, .int .u8 0, .int .u8 0, .int .u8 0]) w := fun _ => by kernel_rfl

/-- The header as it is put together. -/
theorem hdr_eq {p : Pkt} (hf : p.Fit) (mo : Int) (hm : mo = if p.more then 1 else 0) (r1 : 0 ≤ p.proto) (r2 : p.proto ≤ 255) (r3 : 0 ≤ p.ttl) (r4 : p.ttl ≤ 255) (r5 : 0 ≤ p.id) (r6 : p.id ≤ 65535) (r7 : 0 ≤ p.off) (r8 : p.off ≤ 65528) (r9 : (p.data.length : Int) ≤ 65535) :
    [U8 4, U8 p.proto, U8 p.ttl, U8 mo, U8 ((p.data.length : Int) / 256 % 256), U8 ((p.data.length : Int) % 256), U8 (p.id / 256 % 256), U8 (p.id % 256), U8 (p.off / 256 % 256), U8 (p.off % 256), U8 0, U8 0,
      U8 (p.src / 256 / 256 / 256 % 256), U8 (p.src / 256 / 256 % 256), U8 (p.src / 256 % 256), U8 (p.src % 256), U8 (p.dst / 256 / 256 / 256 % 256), U8 (p.dst / 256 / 256 % 256), U8 (p.dst / 256 % 256), U8 (p.dst % 256)] = hcells (hd p 0) := by
  have h1 := hf.src0
  have h2 := hf.src1
  have h3 := hf.dst0
  have h4 := hf.dst1
  unfold hcells
  rw [show List.range 20 = [0, 1, 2, 3, 4, 5, 6, 7, 8, 9, 10, 11, 12, 13, 14, 15, 16, 17, 18, 19] from rfl]
  have hm' : mo = ((if p.more then 1 else 0 : Nat) : Int) := by rw [hm]; cases p.more <;> rfl
  simp only [List.map_cons, List.map_nil, hd, List.cons.injEq, Value.int.injEq, true_and, and_true]
  refine ⟨?_, ?_, ?_, hm', ?_⟩ <;> omega

theorem hdr_sum (p : Pkt) (s : Nat) (hs : s ≤ 65535) : ((hcells (hd p 0)).set (10 + 1) (U8 ((s : Int) % 256))).set 10 (U8 ((s : Int) / 256 % 256)) = hcells (hd p s) := by
  unfold hcells
  rw [show List.range 20 = [0, 1, 2, 3, 4, 5, 6, 7, 8, 9, 10, 11, 12, 13, 14, 15, 16, 17, 18, 19] from rfl]
  simp only [List.map_cons, List.map_nil, hd, List.set_cons_succ, List.set_cons_zero, List.cons.injEq, Value.int.injEq, true_and, and_true]
  omega

theorem NumsIn.none {w : World} {kd : IntKind} {A : Option Addr} {xs : List Nat} (h : NumsIn w kd A xs) : A = none → xs.length = 0 := by
  intro hA
  cases xs with
  | nil => rfl
  | cons x xs =>
    obtain ⟨b, o, he, -⟩ := h 0 x rfl
    rw [hA] at he
    cases he

/-- What Encode answers. -/
def EncodedS (p : Pkt) (w : World) (e : Ending) (w' : World) : Prop :=
  (∃ v, e = .returned (.tuple #[v, I64 p.valid]) ∧ (if p.bad then v = .slice none 0 0 else ∃ A c, v = .slice A p.bytes.length c ∧ NumsIn w' .u8 A p.bytes ∧ p.bytes.length ≤ c)) ∧ Only [] w w'

set_option maxRecDepth 100000 in
set_option maxHeartbeats 8000000 in
theorem Encode_ok (p : Pkt) (w : World) (hf : p.Fit) (hl : p.data.length ≤ maxLen) (hA : NumsIn w .u8 p.A p.data) :
    Calls Try.prog 17 #[p.V] w fun e w' => EncodedS p w e w' := by
  have hO : Only [] w (w.alloc (.cells #[.int .u32 p.src, .int .u32 p.dst, I64 p.proto, I64 p.ttl, I64 p.id, I64 p.off, .bool p.more, .slice p.A p.data.length p.cap] 30)) := (Only.refl [] w).alloc _
  have hB : Blk (w.alloc (.cells #[.int .u32 p.src, .int .u32 p.dst, I64 p.proto, I64 p.ttl, I64 p.id, I64 p.off, .bool p.more, .slice p.A p.data.length p.cap] 30)) w.heap.size 30 p.cells := Blk.newA rfl
  show Calls Try.prog 17 #[.agg #[.int .u32 p.src, .int .u32 p.dst, I64 p.proto, I64 p.ttl, I64 p.id, I64 p.off, .bool p.more, .slice p.A p.data.length p.cap]] w _
  have HA := hide hA
  have HF := hide hf
  have HO := hide (And.intro hO hB)
  clear hA hf hO hB
  go_enter Try.func17, Try.ntmps17
  go_wp2_with fail
  refine (Valid_ok p _ hl).mono ?_
  rintro e w1 ⟨rfl, ho⟩
  have h1 := hide (And.intro (Only.trans HO.out.1 ho) (ho.blk HO.out.2 (by simp)))
  have hne : w.heap.size < w1.heap.size := h1.out.2.lt
  clear ho HO
  by_cases hbad : p.bad
  · have hv : p.valid = 34 := Pkt.valid_bad hbad
    have HB := hide hbad
    clear hbad
    rw [hv]
    go_wp2
    go_ret2
    refine ⟨⟨.slice none 0 0, by rw [hv]; rfl, by rw [if_pos HB.out]⟩, h1.out.1⟩
  · have hv : p.valid = 0 := Pkt.valid_good hbad
    have HB := hide hbad
    rw [hv]
    have e0 := h1.out.2.cell (i := 0) rfl
    have e1 := h1.out.2.cell (i := 1) rfl
    have e2 := h1.out.2.cell (i := 2) rfl
    have e3 := h1.out.2.cell (i := 3) rfl
    have e4 := h1.out.2.cell (i := 4) rfl
    have e5 := h1.out.2.cell (i := 5) rfl
    have e6 := h1.out.2.cell (i := 6) rfl
    have e7 := h1.out.2.cell (i := 7) rfl
    have hbd := build_hdr p.proto p.ttl
    have hp : ∃ n : Nat, n ≤ 255 ∧ p.proto = n := ⟨p.proto.toNat, by unfold Pkt.bad at hbad; omega, by unfold Pkt.bad at hbad; omega⟩
    have q1 : 0 ≤ p.proto ∧ p.proto ≤ 255 ∧ 0 ≤ p.ttl ∧ p.ttl ≤ 255 ∧ 0 ≤ p.id ∧ p.id ≤ 65535 ∧ 0 ≤ p.off ∧ p.off ≤ 65528 ∧ (p.data.length : Int) ≤ 65535 := by unfold Pkt.bad at hbad; omega
    obtain ⟨r1, r2, r3, r4, r5, r6, r7, r8, r9⟩ := q1
    clear hbad hp
    have wr1 : IntKind.u8.wrap p.proto = p.proto := by rw [wrap8]; omega
    have wr2 : IntKind.u8.wrap p.ttl = p.ttl := by rw [wrap8]; omega
    have wl : IntKind.u32.wrap (p.data.length : Int) = (p.data.length : Int) := by rw [wrap32]; omega
    have wi : IntKind.u32.wrap p.id = p.id := by rw [wrap32]; omega
    have wo : IntKind.u32.wrap p.off = p.off := by rw [wrap32]; omega
    cases hm : p.more
    · have HM := hide hm
      go_wp2_with (refine wpList_store_cells rfl 123 (.tmp 5) (.tmp 17) rfl w1.heap.size 0 rfl [.int .u8 4, .int .u8 p.proto, .int .u8 p.ttl, .int .u8 0, .int .u8 0, .int .u8 0, .int .u8 0, .int .u8 0, .int .u8 0, .int .u8 0, .int .u8 0, .int .u8 0, .int .u8 0, .int .u8 0, .int .u8 0, .int .u8 0, .int .u8 0, .int .u8 0, .int .u8 0, .int .u8 0] rfl 123 zs20 (Blk.newA rfl) (by exact Nat.le_refl _) (by kernel_rfl) (by simp [Value.oneCell']) ?_; intro v0 hw2
                   have HB0 : Hid (Only [] w v0 ∧ Blk v0 w.heap.size 30 p.cells ∧ Blk v0 w1.heap.size 123 [.int .u8 4, .int .u8 p.proto, .int .u8 p.ttl, .int .u8 0, .int .u8 0, .int .u8 0, .int .u8 0, .int .u8 0, .int .u8 0, .int .u8 0, .int .u8 0, .int .u8 0, .int .u8 0, .int .u8 0, .int .u8 0, .int .u8 0, .int .u8 0, .int .u8 0, .int .u8 0, .int .u8 0]) := hide ⟨(h1.out.1.alloc _).trans' hw2.2.1 (by intro i hi; simp at hi; omega), hw2.2.1.blk (h1.out.2.alloc _) (by simp; omega), Blk.to hw2.1 (by rfl)⟩
                   have k3' := HB0.out.2.1
                   have e0' := k3'.cell (i := 6) rfl
                   have g3 := HB0.out.2.2.cell (i := 3) rfl
                   have z3 := HB0.out.2.2.frozen 3
                   have lt0 := k3'.lt
                   have lt1 := HB0.out.2.2.lt
                   clear k3' hw2)
      clear e0 e1 e2 e3 e4 e5 e6 e7 hm hbd lt0 e0'
      clear g3 z3 lt1
      have k3' := HB0.out.2.1
      have e0 := k3'.cell (i := 0) rfl
      have e1 := k3'.cell (i := 1) rfl
      have e2 := k3'.cell (i := 2) rfl
      have e3 := k3'.cell (i := 3) rfl
      have e4 := k3'.cell (i := 4) rfl
      have e5 := k3'.cell (i := 5) rfl
      have e6 := k3'.cell (i := 6) rfl
      have e7 := k3'.cell (i := 7) rfl
      have lt0 := k3'.lt
      have lt1 := HB0.out.2.2.lt
      clear k3'
      refine wp_region_text 5 [] [] [] (fun _ => True) (by kernel_rfl) (by kernel_rfl) trivial ?_
      simp only [List.take_succ_cons, List.take_zero, List.drop_succ_cons, List.drop_zero]
      repeat (first | ((refine wpText_h rfl rfl ?_; apply Exists.intro; refine ⟨?_, ?_⟩; next => (go_simp; (try (go_bits; go_simp)); (first | done | with_reducible rfl | (rw [if_neg (by omega)]; (try (go_bits; go_simp)); (first | done | with_reducible rfl)) | (rw [if_pos (by omega)]; (try (go_bits; go_simp)); (first | done | with_reducible rfl))))); (try simp only [Act.put, List.setIfInBounds_toArray, List.set_cons_zero, List.set_cons_succ])) | ((refine wpText_p rfl rfl ?_; apply Exists.intro; refine ⟨?_, ?_⟩; next => (intro w'; go_simp; (try (go_bits; go_simp)); (first | done | with_reducible rfl | (rw [if_neg (by omega)]; (try (go_bits; go_simp)); (first | done | with_reducible rfl)) | (rw [if_pos (by omega)]; (try (go_bits; go_simp)); (first | done | with_reducible rfl))))); (try simp only [Act.put, List.setIfInBounds_toArray, List.set_cons_zero, List.set_cons_succ])) | ((refine wpText_y rfl rfl ?_; apply Exists.intro; refine ⟨?_, ?_⟩; next => (intro w' hS; (first | obtain ⟨_, rfl⟩ := hS | skip); go_simp; (try (go_bits; go_simp)); (first | done | with_reducible rfl | (rw [if_neg (by omega)]; (try (go_bits; go_simp)); (first | done | with_reducible rfl)) | (rw [if_pos (by omega)]; (try (go_bits; go_simp)); (first | done | with_reducible rfl))))); (try simp only [Act.put, List.setIfInBounds_toArray, List.set_cons_zero, List.set_cons_succ])) | (refine wpText_skip (by first | exact .inl rfl | exact .inr (.inl rfl) | exact .inr (.inr rfl)) rfl ?_; (try simp only [Act.put, List.setIfInBounds_toArray, List.set_cons_zero, List.set_cons_succ])))
      refine wpText_nil ?_
      go_wp2_with fail
      refine (put2_ok w1.heap.size 4 16 123 _ (p.data.length : Int) _ HB0.out.2.2.drew (by simp) (by omega) (by omega)).mono ?_
      rintro e v1 ⟨rfl, k1, k2, k3⟩
      simp only [List.set_cons_succ, List.set_cons_zero, Nat.reduceAdd] at k1
      have HB1 := hide (show _ ∧ _ ∧ _ from ⟨HB0.out.1.drew.trans' k2 (by simp; omega), k2.blk HB0.out.2.1.drew (by simp; omega), k1⟩)
      have k3' := HB1.out.2.1
      clear e0 e1 e2 e3 e4 e5 e6 e7 HB0 k1 k2 k3 lt0 lt1
      have e0 := k3'.cell (i := 0) rfl
      have e1 := k3'.cell (i := 1) rfl
      have e2 := k3'.cell (i := 2) rfl
      have e3 := k3'.cell (i := 3) rfl
      have e4 := k3'.cell (i := 4) rfl
      have e5 := k3'.cell (i := 5) rfl
      have e6 := k3'.cell (i := 6) rfl
      have e7 := k3'.cell (i := 7) rfl
      have lt0 := k3'.lt
      have lt1 := HB1.out.2.2.lt
      clear k3'
      go_wp2
      refine NoX.normal ?_
      go_wp2_with fail
      refine wp_region_text 4 [] [] [] (fun _ => True) (by kernel_rfl) (by kernel_rfl) trivial ?_
      simp only [List.take_succ_cons, List.take_zero, List.drop_succ_cons, List.drop_zero]
      repeat (first | ((refine wpText_h rfl rfl ?_; apply Exists.intro; refine ⟨?_, ?_⟩; next => (go_simp; (try (go_bits; go_simp)); (first | done | with_reducible rfl | (rw [if_neg (by omega)]; (try (go_bits; go_simp)); (first | done | with_reducible rfl)) | (rw [if_pos (by omega)]; (try (go_bits; go_simp)); (first | done | with_reducible rfl))))); (try simp only [Act.put, List.setIfInBounds_toArray, List.set_cons_zero, List.set_cons_succ])) | ((refine wpText_p rfl rfl ?_; apply Exists.intro; refine ⟨?_, ?_⟩; next => (intro w'; go_simp; (try (go_bits; go_simp)); (first | done | with_reducible rfl | (rw [if_neg (by omega)]; (try (go_bits; go_simp)); (first | done | with_reducible rfl)) | (rw [if_pos (by omega)]; (try (go_bits; go_simp)); (first | done | with_reducible rfl))))); (try simp only [Act.put, List.setIfInBounds_toArray, List.set_cons_zero, List.set_cons_succ])) | ((refine wpText_y rfl rfl ?_; apply Exists.intro; refine ⟨?_, ?_⟩; next => (intro w' hS; (first | obtain ⟨_, rfl⟩ := hS | skip); go_simp; (try (go_bits; go_simp)); (first | done | with_reducible rfl | (rw [if_neg (by omega)]; (try (go_bits; go_simp)); (first | done | with_reducible rfl)) | (rw [if_pos (by omega)]; (try (go_bits; go_simp)); (first | done | with_reducible rfl))))); (try simp only [Act.put, List.setIfInBounds_toArray, List.set_cons_zero, List.set_cons_succ])) | (refine wpText_skip (by first | exact .inl rfl | exact .inr (.inl rfl) | exact .inr (.inr rfl)) rfl ?_; (try simp only [Act.put, List.setIfInBounds_toArray, List.set_cons_zero, List.set_cons_succ])))
      refine wpText_nil ?_
      go_wp2_with fail
      refine (put2_ok w1.heap.size 6 14 123 _ p.id _ HB1.out.2.2.drew (by simp) (by omega) (by omega)).mono ?_
      rintro e v2 ⟨rfl, k1, k2, k3⟩
      simp only [List.set_cons_succ, List.set_cons_zero, Nat.reduceAdd] at k1
      have HB2 := hide (show _ ∧ _ ∧ _ from ⟨HB1.out.1.drew.trans' k2 (by simp; omega), k2.blk HB1.out.2.1.drew (by simp; omega), k1⟩)
      have k3' := HB2.out.2.1
      clear e0 e1 e2 e3 e4 e5 e6 e7 HB1 k1 k2 k3 lt0 lt1
      have e0 := k3'.cell (i := 0) rfl
      have e1 := k3'.cell (i := 1) rfl
      have e2 := k3'.cell (i := 2) rfl
      have e3 := k3'.cell (i := 3) rfl
      have e4 := k3'.cell (i := 4) rfl
      have e5 := k3'.cell (i := 5) rfl
      have e6 := k3'.cell (i := 6) rfl
      have e7 := k3'.cell (i := 7) rfl
      have lt0 := k3'.lt
      have lt1 := HB2.out.2.2.lt
      clear k3'
      go_wp2
      refine NoX.normal ?_
      go_wp2_with fail
      refine wp_region_text 4 [] [] [] (fun _ => True) (by kernel_rfl) (by kernel_rfl) trivial ?_
      simp only [List.take_succ_cons, List.take_zero, List.drop_succ_cons, List.drop_zero]
      repeat (first | ((refine wpText_h rfl rfl ?_; apply Exists.intro; refine ⟨?_, ?_⟩; next => (go_simp; (try (go_bits; go_simp)); (first | done | with_reducible rfl | (rw [if_neg (by omega)]; (try (go_bits; go_simp)); (first | done | with_reducible rfl)) | (rw [if_pos (by omega)]; (try (go_bits; go_simp)); (first | done | with_reducible rfl))))); (try simp only [Act.put, List.setIfInBounds_toArray, List.set_cons_zero, List.set_cons_succ])) | ((refine wpText_p rfl rfl ?_; apply Exists.intro; refine ⟨?_, ?_⟩; next => (intro w'; go_simp; (try (go_bits; go_simp)); (first | done | with_reducible rfl | (rw [if_neg (by omega)]; (try (go_bits; go_simp)); (first | done | with_reducible rfl)) | (rw [if_pos (by omega)]; (try (go_bits; go_simp)); (first | done | with_reducible rfl))))); (try simp only [Act.put, List.setIfInBounds_toArray, List.set_cons_zero, List.set_cons_succ])) | ((refine wpText_y rfl rfl ?_; apply Exists.intro; refine ⟨?_, ?_⟩; next => (intro w' hS; (first | obtain ⟨_, rfl⟩ := hS | skip); go_simp; (try (go_bits; go_simp)); (first | done | with_reducible rfl | (rw [if_neg (by omega)]; (try (go_bits; go_simp)); (first | done | with_reducible rfl)) | (rw [if_pos (by omega)]; (try (go_bits; go_simp)); (first | done | with_reducible rfl))))); (try simp only [Act.put, List.setIfInBounds_toArray, List.set_cons_zero, List.set_cons_succ])) | (refine wpText_skip (by first | exact .inl rfl | exact .inr (.inl rfl) | exact .inr (.inr rfl)) rfl ?_; (try simp only [Act.put, List.setIfInBounds_toArray, List.set_cons_zero, List.set_cons_succ])))
      refine wpText_nil ?_
      go_wp2_with fail
      refine (put2_ok w1.heap.size 8 12 123 _ p.off _ HB2.out.2.2.drew (by simp) (by omega) (by omega)).mono ?_
      rintro e v3 ⟨rfl, k1, k2, k3⟩
      simp only [List.set_cons_succ, List.set_cons_zero, Nat.reduceAdd] at k1
      have HB3 := hide (show _ ∧ _ ∧ _ from ⟨HB2.out.1.drew.trans' k2 (by simp; omega), k2.blk HB2.out.2.1.drew (by simp; omega), k1⟩)
      have k3' := HB3.out.2.1
      clear e0 e1 e2 e3 e4 e5 e6 e7 HB2 k1 k2 k3 lt0 lt1
      have e0 := k3'.cell (i := 0) rfl
      have e1 := k3'.cell (i := 1) rfl
      have e2 := k3'.cell (i := 2) rfl
      have e3 := k3'.cell (i := 3) rfl
      have e4 := k3'.cell (i := 4) rfl
      have e5 := k3'.cell (i := 5) rfl
      have e6 := k3'.cell (i := 6) rfl
      have e7 := k3'.cell (i := 7) rfl
      have lt0 := k3'.lt
      have lt1 := HB3.out.2.2.lt
      clear k3'
      go_wp2
      refine NoX.normal ?_
      go_wp2_with fail
      refine wp_region_text 3 [] [] [] (fun _ => True) (by kernel_rfl) (by kernel_rfl) trivial ?_
      simp only [List.take_succ_cons, List.take_zero, List.drop_succ_cons, List.drop_zero]
      repeat (first | ((refine wpText_h rfl rfl ?_; apply Exists.intro; refine ⟨?_, ?_⟩; next => (go_simp; (try (go_bits; go_simp)); (first | done | with_reducible rfl | (rw [if_neg (by omega)]; (try (go_bits; go_simp)); (first | done | with_reducible rfl)) | (rw [if_pos (by omega)]; (try (go_bits; go_simp)); (first | done | with_reducible rfl))))); (try simp only [Act.put, List.setIfInBounds_toArray, List.set_cons_zero, List.set_cons_succ])) | ((refine wpText_p rfl rfl ?_; apply Exists.intro; refine ⟨?_, ?_⟩; next => (intro w'; go_simp; (try (go_bits; go_simp)); (first | done | with_reducible rfl | (rw [if_neg (by omega)]; (try (go_bits; go_simp)); (first | done | with_reducible rfl)) | (rw [if_pos (by omega)]; (try (go_bits; go_simp)); (first | done | with_reducible rfl))))); (try simp only [Act.put, List.setIfInBounds_toArray, List.set_cons_zero, List.set_cons_succ])) | ((refine wpText_y rfl rfl ?_; apply Exists.intro; refine ⟨?_, ?_⟩; next => (intro w' hS; (first | obtain ⟨_, rfl⟩ := hS | skip); go_simp; (try (go_bits; go_simp)); (first | done | with_reducible rfl | (rw [if_neg (by omega)]; (try (go_bits; go_simp)); (first | done | with_reducible rfl)) | (rw [if_pos (by omega)]; (try (go_bits; go_simp)); (first | done | with_reducible rfl))))); (try simp only [Act.put, List.setIfInBounds_toArray, List.set_cons_zero, List.set_cons_succ])) | (refine wpText_skip (by first | exact .inl rfl | exact .inr (.inl rfl) | exact .inr (.inr rfl)) rfl ?_; (try simp only [Act.put, List.setIfInBounds_toArray, List.set_cons_zero, List.set_cons_succ])))
      refine wpText_nil ?_
      go_wp2_with fail
      refine (put4_ok w1.heap.size 12 8 123 _ p.src _ HB3.out.2.2.drew (by simp) (HF.out.src0) (HF.out.src1)).mono ?_
      rintro e v4 ⟨rfl, k1, k2, k3⟩
      simp only [List.set_cons_succ, List.set_cons_zero, Nat.reduceAdd] at k1
      have HB4 := hide (show _ ∧ _ ∧ _ from ⟨HB3.out.1.drew.trans' k2 (by simp; omega), k2.blk HB3.out.2.1.drew (by simp; omega), k1⟩)
      have k3' := HB4.out.2.1
      clear e0 e1 e2 e3 e4 e5 e6 e7 HB3 k1 k2 k3 lt0 lt1
      have e0 := k3'.cell (i := 0) rfl
      have e1 := k3'.cell (i := 1) rfl
      have e2 := k3'.cell (i := 2) rfl
      have e3 := k3'.cell (i := 3) rfl
      have e4 := k3'.cell (i := 4) rfl
      have e5 := k3'.cell (i := 5) rfl
      have e6 := k3'.cell (i := 6) rfl
      have e7 := k3'.cell (i := 7) rfl
      have lt0 := k3'.lt
      have lt1 := HB4.out.2.2.lt
      clear k3'
      go_wp2
      refine NoX.normal ?_
      go_wp2_with fail
      refine wp_region_text 3 [] [] [] (fun _ => True) (by kernel_rfl) (by kernel_rfl) trivial ?_
      simp only [List.take_succ_cons, List.take_zero, List.drop_succ_cons, List.drop_zero]
      repeat (first | ((refine wpText_h rfl rfl ?_; apply Exists.intro; refine ⟨?_, ?_⟩; next => (go_simp; (try (go_bits; go_simp)); (first | done | with_reducible rfl | (rw [if_neg (by omega)]; (try (go_bits; go_simp)); (first | done | with_reducible rfl)) | (rw [if_pos (by omega)]; (try (go_bits; go_simp)); (first | done | with_reducible rfl))))); (try simp only [Act.put, List.setIfInBounds_toArray, List.set_cons_zero, List.set_cons_succ])) | ((refine wpText_p rfl rfl ?_; apply Exists.intro; refine ⟨?_, ?_⟩; next => (intro w'; go_simp; (try (go_bits; go_simp)); (first | done | with_reducible rfl | (rw [if_neg (by omega)]; (try (go_bits; go_simp)); (first | done | with_reducible rfl)) | (rw [if_pos (by omega)]; (try (go_bits; go_simp)); (first | done | with_reducible rfl))))); (try simp only [Act.put, List.setIfInBounds_toArray, List.set_cons_zero, List.set_cons_succ])) | ((refine wpText_y rfl rfl ?_; apply Exists.intro; refine ⟨?_, ?_⟩; next => (intro w' hS; (first | obtain ⟨_, rfl⟩ := hS | skip); go_simp; (try (go_bits; go_simp)); (first | done | with_reducible rfl | (rw [if_neg (by omega)]; (try (go_bits; go_simp)); (first | done | with_reducible rfl)) | (rw [if_pos (by omega)]; (try (go_bits; go_simp)); (first | done | with_reducible rfl))))); (try simp only [Act.put, List.setIfInBounds_toArray, List.set_cons_zero, List.set_cons_succ])) | (refine wpText_skip (by first | exact .inl rfl | exact .inr (.inl rfl) | exact .inr (.inr rfl)) rfl ?_; (try simp only [Act.put, List.setIfInBounds_toArray, List.set_cons_zero, List.set_cons_succ])))
      refine wpText_nil ?_
      go_wp2_with fail
      refine (put4_ok w1.heap.size 16 4 123 _ p.dst _ HB4.out.2.2.drew (by simp) (HF.out.dst0) (HF.out.dst1)).mono ?_
      rintro e v5 ⟨rfl, k1, k2, k3⟩
      simp only [List.set_cons_succ, List.set_cons_zero, Nat.reduceAdd] at k1
      have HB5 := hide (show _ ∧ _ ∧ _ from ⟨HB4.out.1.drew.trans' k2 (by simp; omega), k2.blk HB4.out.2.1.drew (by simp; omega), k1⟩)
      have k3' := HB5.out.2.1
      clear e0 e1 e2 e3 e4 e5 e6 e7 HB4 k1 k2 k3 lt0 lt1
      have e0 := k3'.cell (i := 0) rfl
      have e1 := k3'.cell (i := 1) rfl
      have e2 := k3'.cell (i := 2) rfl
      have e3 := k3'.cell (i := 3) rfl
      have e4 := k3'.cell (i := 4) rfl
      have e5 := k3'.cell (i := 5) rfl
      have e6 := k3'.cell (i := 6) rfl
      have e7 := k3'.cell (i := 7) rfl
      have lt0 := k3'.lt
      have lt1 := HB5.out.2.2.lt
      clear k3'
      go_wp2
      refine NoX.normal ?_
      go_wp2_with fail
      have hH := Blk.to HB5.out.2.2 (cs' := hcells (hd p 0)) (hdr_eq HF.out 0 (by rw [HM.out]; rfl) r1 r2 r3 r4 r5 r6 r7 r8 r9)
      have HB6 := hide (show _ ∧ _ ∧ _ from ⟨HB5.out.1, HB5.out.2.1, hH⟩)
      clear HB5 hH
      refine wp_region_text 2 [] [0] [] (fun _ => True) (by kernel_rfl) (by kernel_rfl) trivial ?_
      simp only [List.take_succ_cons, List.take_zero, List.drop_succ_cons, List.drop_zero]
      repeat (first | ((refine wpText_h rfl rfl ?_; apply Exists.intro; refine ⟨?_, ?_⟩; next => (go_simp; (try (go_bits; go_simp)); (first | done | with_reducible rfl | (rw [if_neg (by omega)]; (try (go_bits; go_simp)); (first | done | with_reducible rfl)) | (rw [if_pos (by omega)]; (try (go_bits; go_simp)); (first | done | with_reducible rfl))))); (try simp only [Act.put, List.setIfInBounds_toArray, List.set_cons_zero, List.set_cons_succ])) | ((refine wpText_p rfl rfl ?_; apply Exists.intro; refine ⟨?_, ?_⟩; next => (intro w'; go_simp; (try (go_bits; go_simp)); (first | done | with_reducible rfl | (rw [if_neg (by omega)]; (try (go_bits; go_simp)); (first | done | with_reducible rfl)) | (rw [if_pos (by omega)]; (try (go_bits; go_simp)); (first | done | with_reducible rfl))))); (try simp only [Act.put, List.setIfInBounds_toArray, List.set_cons_zero, List.set_cons_succ])) | ((refine wpText_y rfl rfl ?_; apply Exists.intro; refine ⟨?_, ?_⟩; next => (intro w' hS; (first | obtain ⟨_, rfl⟩ := hS | skip); go_simp; (try (go_bits; go_simp)); (first | done | with_reducible rfl | (rw [if_neg (by omega)]; (try (go_bits; go_simp)); (first | done | with_reducible rfl)) | (rw [if_pos (by omega)]; (try (go_bits; go_simp)); (first | done | with_reducible rfl))))); (try simp only [Act.put, List.setIfInBounds_toArray, List.set_cons_zero, List.set_cons_succ])) | (refine wpText_skip (by first | exact .inl rfl | exact .inr (.inl rfl) | exact .inr (.inr rfl)) rfl ?_; (try simp only [Act.put, List.setIfInBounds_toArray, List.set_cons_zero, List.set_cons_succ])))
      refine wpText_h rfl rfl ⟨.agg (hcells (hd p 0)).toArray, ?_, ?_⟩
      · exact exec_load_cells 123 (.tmp 5) rfl w1.heap.size 0 rfl (hcells (hd p 0)) (d := _) (fun j v hv => by rw [Nat.zero_add]; exact HB6.out.2.2.drew.cell hv) Try.underlying123 rfl (by rw [show (hcells (hd p 0)).length = 20 by simp [hcells]]; kernel_rfl)
      try simp only [Act.put, List.setIfInBounds_toArray, List.set_cons_zero, List.set_cons_succ]
      repeat (first | ((refine wpText_h rfl rfl ?_; apply Exists.intro; refine ⟨?_, ?_⟩; next => (go_simp; (try (go_bits; go_simp)); (first | done | with_reducible rfl | (rw [if_neg (by omega)]; (try (go_bits; go_simp)); (first | done | with_reducible rfl)) | (rw [if_pos (by omega)]; (try (go_bits; go_simp)); (first | done | with_reducible rfl))))); (try simp only [Act.put, List.setIfInBounds_toArray, List.set_cons_zero, List.set_cons_succ])) | ((refine wpText_p rfl rfl ?_; apply Exists.intro; refine ⟨?_, ?_⟩; next => (intro w'; go_simp; (try (go_bits; go_simp)); (first | done | with_reducible rfl | (rw [if_neg (by omega)]; (try (go_bits; go_simp)); (first | done | with_reducible rfl)) | (rw [if_pos (by omega)]; (try (go_bits; go_simp)); (first | done | with_reducible rfl))))); (try simp only [Act.put, List.setIfInBounds_toArray, List.set_cons_zero, List.set_cons_succ])) | ((refine wpText_y rfl rfl ?_; apply Exists.intro; refine ⟨?_, ?_⟩; next => (intro w' hS; (first | obtain ⟨_, rfl⟩ := hS | skip); go_simp; (try (go_bits; go_simp)); (first | done | with_reducible rfl | (rw [if_neg (by omega)]; (try (go_bits; go_simp)); (first | done | with_reducible rfl)) | (rw [if_pos (by omega)]; (try (go_bits; go_simp)); (first | done | with_reducible rfl))))); (try simp only [Act.put, List.setIfInBounds_toArray, List.set_cons_zero, List.set_cons_succ])) | (refine wpText_skip (by first | exact .inl rfl | exact .inr (.inl rfl) | exact .inr (.inr rfl)) rfl ?_; (try simp only [Act.put, List.setIfInBounds_toArray, List.set_cons_zero, List.set_cons_succ])))
      refine wpText_nil ?_
      go_wp2_with fail
      refine (sum_ok (hd p 0) (hd_le HF.out HB.out (by omega)) _).mono ?_
      rintro e v6 ⟨rfl, ho⟩
      rw [show 65535 - sumw (hwords (hd p 0)) = p.sum from rfl]
      have ps := p.sum_le
      have wsum : IntKind.u32.wrap ((p.sum : Nat) : Int) = ((p.sum : Nat) : Int) := by rw [wrap32]; omega
      have HB7 := hide (show _ ∧ _ ∧ _ from ⟨Only.trans HB6.out.1.drew ho, ho.blk HB6.out.2.1.drew (by simp), ho.blk HB6.out.2.2.drew (by simp)⟩)
      clear ho HB6 e0 e1 e2 e3 e4 e5 e6 e7 lt0 lt1
      go_wp2_with fail
      refine (put2_ok w1.heap.size 10 10 123 _ ((p.sum : Nat) : Int) _ HB7.out.2.2 (by simp [hcells]) (by omega) (by omega)).mono ?_
      rintro e v7 ⟨rfl, k1, k2, k3⟩
      rw [hdr_sum p p.sum ps] at k1
      have HB8 := hide (show _ ∧ _ ∧ _ from ⟨HB7.out.1.trans' k2 (by simp; omega), k2.blk HB7.out.2.1 (by simp; omega), k1⟩)
      clear k1 k2 k3 HB7
      have e7 := HB8.out.2.1.cell (i := 7) rfl
      have lt0 := HB8.out.2.1.lt
      have lt1 := HB8.out.2.2.lt
      go_wp2
      refine NoX.normal ?_
      go_wp2_with fail
      refine wp_region_text 3 [] [] [] (fun _ => True) (by kernel_rfl) (by kernel_rfl) trivial ?_
      simp only [List.take_succ_cons, List.take_zero, List.drop_succ_cons, List.drop_zero]
      repeat (first | ((refine wpText_h rfl rfl ?_; apply Exists.intro; refine ⟨?_, ?_⟩; next => (go_simp; (try (go_bits; go_simp)); (first | done | with_reducible rfl | (rw [if_neg (by omega)]; (try (go_bits; go_simp)); (first | done | with_reducible rfl)) | (rw [if_pos (by omega)]; (try (go_bits; go_simp)); (first | done | with_reducible rfl))))); (try simp only [Act.put, List.setIfInBounds_toArray, List.set_cons_zero, List.set_cons_succ])) | ((refine wpText_p rfl rfl ?_; apply Exists.intro; refine ⟨?_, ?_⟩; next => (intro w'; go_simp; (try (go_bits; go_simp)); (first | done | with_reducible rfl | (rw [if_neg (by omega)]; (try (go_bits; go_simp)); (first | done | with_reducible rfl)) | (rw [if_pos (by omega)]; (try (go_bits; go_simp)); (first | done | with_reducible rfl))))); (try simp only [Act.put, List.setIfInBounds_toArray, List.set_cons_zero, List.set_cons_succ])) | ((refine wpText_y rfl rfl ?_; apply Exists.intro; refine ⟨?_, ?_⟩; next => (intro w' hS; (first | obtain ⟨_, rfl⟩ := hS | skip); go_simp; (try (go_bits; go_simp)); (first | done | with_reducible rfl | (rw [if_neg (by omega)]; (try (go_bits; go_simp)); (first | done | with_reducible rfl)) | (rw [if_pos (by omega)]; (try (go_bits; go_simp)); (first | done | with_reducible rfl))))); (try simp only [Act.put, List.setIfInBounds_toArray, List.set_cons_zero, List.set_cons_succ])) | (refine wpText_skip (by first | exact .inl rfl | exact .inr (.inl rfl) | exact .inr (.inr rfl)) rfl ?_; (try simp only [Act.put, List.setIfInBounds_toArray, List.set_cons_zero, List.set_cons_succ])))
      refine wpText_nil ?_
      obtain ⟨A', c', W', hr, q1, q2, -, hcc⟩ := append_full v7.drew w1.heap.size 20 123 ((List.range 20).map (hd p p.sum)) (Blk.to HB8.out.2.2.drew (by simp [hcells, bcells])) (by simp) p.A p.data _ p.cap rfl (HA.out.only HB8.out.1.drew) (by omega) (NumsIn.none HA.out)
      have HR := hide hr
      have HQ := hide (And.intro (Only.trans HB8.out.1.drew q1) q2)
      have HCC := hide hcc
      clear hr q1 q2 HB8 e7 lt0 lt1 hcc
      go_wp2_with (at_builtin; refine wpList_append_eq rfl (.tmp 50) (.tmp 52) 28 rfl _ _ _ rfl rfl HR.out ?_)
      refine NoX.normal ?_
      go_wp2
      go_ret2
      refine ⟨⟨_, by rw [hv]; rfl, ?_⟩, HQ.out.1⟩
      rw [if_neg HB.out]
      exact ⟨some A', c', by unfold Pkt.bytes; simp, HQ.out.2, by unfold Pkt.bytes; simpa using HCC.out⟩
    · have HM := hide hm
      go_wp2_with (refine wpList_store_cells rfl 123 (.tmp 5) (.tmp 17) rfl w1.heap.size 0 rfl [.int .u8 4, .int .u8 p.proto, .int .u8 p.ttl, .int .u8 0, .int .u8 0, .int .u8 0, .int .u8 0, .int .u8 0, .int .u8 0, .int .u8 0, .int .u8 0, .int .u8 0, .int .u8 0, .int .u8 0, .int .u8 0, .int .u8 0, .int .u8 0, .int .u8 0, .int .u8 0, .int .u8 0] rfl 123 zs20 (Blk.newA rfl) (by exact Nat.le_refl _) (by kernel_rfl) (by simp [Value.oneCell']) ?_; intro v0 hw2
                   have HB0 : Hid (Only [] w v0 ∧ Blk v0 w.heap.size 30 p.cells ∧ Blk v0 w1.heap.size 123 [.int .u8 4, .int .u8 p.proto, .int .u8 p.ttl, .int .u8 0, .int .u8 0, .int .u8 0, .int .u8 0, .int .u8 0, .int .u8 0, .int .u8 0, .int .u8 0, .int .u8 0, .int .u8 0, .int .u8 0, .int .u8 0, .int .u8 0, .int .u8 0, .int .u8 0, .int .u8 0, .int .u8 0]) := hide ⟨(h1.out.1.alloc _).trans' hw2.2.1 (by intro i hi; simp at hi; omega), hw2.2.1.blk (h1.out.2.alloc _) (by simp; omega), Blk.to hw2.1 (by rfl)⟩
                   have k3' := HB0.out.2.1
                   have e0' := k3'.cell (i := 6) rfl
                   have g3 := HB0.out.2.2.cell (i := 3) rfl
                   have z3 := HB0.out.2.2.frozen 3
                   have lt0 := k3'.lt
                   have lt1 := HB0.out.2.2.lt
                   clear k3' hw2)
      clear e0 e1 e2 e3 e4 e5 e6 e7 hm hbd lt0 e0'
      have HB0b : Hid (Only [] w (v0.setCell ⟨w1.heap.size, 3, none⟩ (.int .u8 1)) ∧ Blk (v0.setCell ⟨w1.heap.size, 3, none⟩ (.int .u8 1)) w.heap.size 30 p.cells ∧ Blk (v0.setCell ⟨w1.heap.size, 3, none⟩ (.int .u8 1)) w1.heap.size 123 [.int .u8 4, .int .u8 p.proto, .int .u8 p.ttl, .int .u8 1, .int .u8 0, .int .u8 0, .int .u8 0, .int .u8 0, .int .u8 0, .int .u8 0, .int .u8 0, .int .u8 0, .int .u8 0, .int .u8 0, .int .u8 0, .int .u8 0, .int .u8 0, .int .u8 0, .int .u8 0, .int .u8 0]) :=
        hide ⟨HB0.out.1.set (.inr (by show w.heap.size ≤ w1.heap.size; omega)) _, HB0.out.2.1.far (by show w.heap.size ≠ w1.heap.size; omega) _, Blk.to (HB0.out.2.2.set 3 _) rfl⟩
      clear g3 z3 lt1 HB0
      revert HB0b
      generalize v0.setCell ⟨w1.heap.size, 3, none⟩ (.int .u8 1) = v00
      intro HB0
      have k3' := HB0.out.2.1
      have e0 := k3'.cell (i := 0) rfl
      have e1 := k3'.cell (i := 1) rfl
      have e2 := k3'.cell (i := 2) rfl
      have e3 := k3'.cell (i := 3) rfl
      have e4 := k3'.cell (i := 4) rfl
      have e5 := k3'.cell (i := 5) rfl
      have e6 := k3'.cell (i := 6) rfl
      have e7 := k3'.cell (i := 7) rfl
      have lt0 := k3'.lt
      have lt1 := HB0.out.2.2.lt
      clear k3'
      refine wp_region_text 5 [] [] [] (fun _ => True) (by kernel_rfl) (by kernel_rfl) trivial ?_
      simp only [List.take_succ_cons, List.take_zero, List.drop_succ_cons, List.drop_zero]
      repeat (first | ((refine wpText_h rfl rfl ?_; apply Exists.intro; refine ⟨?_, ?_⟩; next => (go_simp; (try (go_bits; go_simp)); (first | done | with_reducible rfl | (rw [if_neg (by omega)]; (try (go_bits; go_simp)); (first | done | with_reducible rfl)) | (rw [if_pos (by omega)]; (try (go_bits; go_simp)); (first | done | with_reducible rfl))))); (try simp only [Act.put, List.setIfInBounds_toArray, List.set_cons_zero, List.set_cons_succ])) | ((refine wpText_p rfl rfl ?_; apply Exists.intro; refine ⟨?_, ?_⟩; next => (intro w'; go_simp; (try (go_bits; go_simp)); (first | done | with_reducible rfl | (rw [if_neg (by omega)]; (try (go_bits; go_simp)); (first | done | with_reducible rfl)) | (rw [if_pos (by omega)]; (try (go_bits; go_simp)); (first | done | with_reducible rfl))))); (try simp only [Act.put, List.setIfInBounds_toArray, List.set_cons_zero, List.set_cons_succ])) | ((refine wpText_y rfl rfl ?_; apply Exists.intro; refine ⟨?_, ?_⟩; next => (intro w' hS; (first | obtain ⟨_, rfl⟩ := hS | skip); go_simp; (try (go_bits; go_simp)); (first | done | with_reducible rfl | (rw [if_neg (by omega)]; (try (go_bits; go_simp)); (first | done | with_reducible rfl)) | (rw [if_pos (by omega)]; (try (go_bits; go_simp)); (first | done | with_reducible rfl))))); (try simp only [Act.put, List.setIfInBounds_toArray, List.set_cons_zero, List.set_cons_succ])) | (refine wpText_skip (by first | exact .inl rfl | exact .inr (.inl rfl) | exact .inr (.inr rfl)) rfl ?_; (try simp only [Act.put, List.setIfInBounds_toArray, List.set_cons_zero, List.set_cons_succ])))
      refine wpText_nil ?_
      go_wp2_with fail
      refine (put2_ok w1.heap.size 4 16 123 _ (p.data.length : Int) _ HB0.out.2.2.drew (by simp) (by omega) (by omega)).mono ?_
      rintro e v1 ⟨rfl, k1, k2, k3⟩
      simp only [List.set_cons_succ, List.set_cons_zero, Nat.reduceAdd] at k1
      have HB1 := hide (show _ ∧ _ ∧ _ from ⟨HB0.out.1.drew.trans' k2 (by simp; omega), k2.blk HB0.out.2.1.drew (by simp; omega), k1⟩)
      have k3' := HB1.out.2.1
      clear e0 e1 e2 e3 e4 e5 e6 e7 HB0 k1 k2 k3 lt0 lt1
      have e0 := k3'.cell (i := 0) rfl
      have e1 := k3'.cell (i := 1) rfl
      have e2 := k3'.cell (i := 2) rfl
      have e3 := k3'.cell (i := 3) rfl
      have e4 := k3'.cell (i := 4) rfl
      have e5 := k3'.cell (i := 5) rfl
      have e6 := k3'.cell (i := 6) rfl
      have e7 := k3'.cell (i := 7) rfl
      have lt0 := k3'.lt
      have lt1 := HB1.out.2.2.lt
      clear k3'
      go_wp2
      refine NoX.normal ?_
      go_wp2_with fail
      refine wp_region_text 4 [] [] [] (fun _ => True) (by kernel_rfl) (by kernel_rfl) trivial ?_
      simp only [List.take_succ_cons, List.take_zero, List.drop_succ_cons, List.drop_zero]
      repeat (first | ((refine wpText_h rfl rfl ?_; apply Exists.intro; refine ⟨?_, ?_⟩; next => (go_simp; (try (go_bits; go_simp)); (first | done | with_reducible rfl | (rw [if_neg (by omega)]; (try (go_bits; go_simp)); (first | done | with_reducible rfl)) | (rw [if_pos (by omega)]; (try (go_bits; go_simp)); (first | done | with_reducible rfl))))); (try simp only [Act.put, List.setIfInBounds_toArray, List.set_cons_zero, List.set_cons_succ])) | ((refine wpText_p rfl rfl ?_; apply Exists.intro; refine ⟨?_, ?_⟩; next => (intro w'; go_simp; (try (go_bits; go_simp)); (first | done | with_reducible rfl | (rw [if_neg (by omega)]; (try (go_bits; go_simp)); (first | done | with_reducible rfl)) | (rw [if_pos (by omega)]; (try (go_bits; go_simp)); (first | done | with_reducible rfl))))); (try simp only [Act.put, List.setIfInBounds_toArray, List.set_cons_zero, List.set_cons_succ])) | ((refine wpText_y rfl rfl ?_; apply Exists.intro; refine ⟨?_, ?_⟩; next => (intro w' hS; (first | obtain ⟨_, rfl⟩ := hS | skip); go_simp; (try (go_bits; go_simp)); (first | done | with_reducible rfl | (rw [if_neg (by omega)]; (try (go_bits; go_simp)); (first | done | with_reducible rfl)) | (rw [if_pos (by omega)]; (try (go_bits; go_simp)); (first | done | with_reducible rfl))))); (try simp only [Act.put, List.setIfInBounds_toArray, List.set_cons_zero, List.set_cons_succ])) | (refine wpText_skip (by first | exact .inl rfl | exact .inr (.inl rfl) | exact .inr (.inr rfl)) rfl ?_; (try simp only [Act.put, List.setIfInBounds_toArray, List.set_cons_zero, List.set_cons_succ])))
      refine wpText_nil ?_
      go_wp2_with fail
      refine (put2_ok w1.heap.size 6 14 123 _ p.id _ HB1.out.2.2.drew (by simp) (by omega) (by omega)).mono ?_
      rintro e v2 ⟨rfl, k1, k2, k3⟩
      simp only [List.set_cons_succ, List.set_cons_zero, Nat.reduceAdd] at k1
      have HB2 := hide (show _ ∧ _ ∧ _ from ⟨HB1.out.1.drew.trans' k2 (by simp; omega), k2.blk HB1.out.2.1.drew (by simp; omega), k1⟩)
      have k3' := HB2.out.2.1
      clear e0 e1 e2 e3 e4 e5 e6 e7 HB1 k1 k2 k3 lt0 lt1
      have e0 := k3'.cell (i := 0) rfl
      have e1 := k3'.cell (i := 1) rfl
      have e2 := k3'.cell (i := 2) rfl
      have e3 := k3'.cell (i := 3) rfl
      have e4 := k3'.cell (i := 4) rfl
      have e5 := k3'.cell (i := 5) rfl
      have e6 := k3'.cell (i := 6) rfl
      have e7 := k3'.cell (i := 7) rfl
      have lt0 := k3'.lt
      have lt1 := HB2.out.2.2.lt
      clear k3'
      go_wp2
      refine NoX.normal ?_
      go_wp2_with fail
      refine wp_region_text 4 [] [] [] (fun _ => True) (by kernel_rfl) (by kernel_rfl) trivial ?_
      simp only [List.take_succ_cons, List.take_zero, List.drop_succ_cons, List.drop_zero]
      repeat (first | ((refine wpText_h rfl rfl ?_; apply Exists.intro; refine ⟨?_, ?_⟩; next => (go_simp; (try (go_bits; go_simp)); (first | done | with_reducible rfl | (rw [if_neg (by omega)]; (try (go_bits; go_simp)); (first | done | with_reducible rfl)) | (rw [if_pos (by omega)]; (try (go_bits; go_simp)); (first | done | with_reducible rfl))))); (try simp only [Act.put, List.setIfInBounds_toArray, List.set_cons_zero, List.set_cons_succ])) | ((refine wpText_p rfl rfl ?_; apply Exists.intro; refine ⟨?_, ?_⟩; next => (intro w'; go_simp; (try (go_bits; go_simp)); (first | done | with_reducible rfl | (rw [if_neg (by omega)]; (try (go_bits; go_simp)); (first | done | with_reducible rfl)) | (rw [if_pos (by omega)]; (try (go_bits; go_simp)); (first | done | with_reducible rfl))))); (try simp only [Act.put, List.setIfInBounds_toArray, List.set_cons_zero, List.set_cons_succ])) | ((refine wpText_y rfl rfl ?_; apply Exists.intro; refine ⟨?_, ?_⟩; next => (intro w' hS; (first | obtain ⟨_, rfl⟩ := hS | skip); go_simp; (try (go_bits; go_simp)); (first | done | with_reducible rfl | (rw [if_neg (by omega)]; (try (go_bits; go_simp)); (first | done | with_reducible rfl)) | (rw [if_pos (by omega)]; (try (go_bits; go_simp)); (first | done | with_reducible rfl))))); (try simp only [Act.put, List.setIfInBounds_toArray, List.set_cons_zero, List.set_cons_succ])) | (refine wpText_skip (by first | exact .inl rfl | exact .inr (.inl rfl) | exact .inr (.inr rfl)) rfl ?_; (try simp only [Act.put, List.setIfInBounds_toArray, List.set_cons_zero, List.set_cons_succ])))
      refine wpText_nil ?_
      go_wp2_with fail
      refine (put2_ok w1.heap.size 8 12 123 _ p.off _ HB2.out.2.2.drew (by simp) (by omega) (by omega)).mono ?_
      rintro e v3 ⟨rfl, k1, k2, k3⟩
      simp only [List.set_cons_succ, List.set_cons_zero, Nat.reduceAdd] at k1
      have HB3 := hide (show _ ∧ _ ∧ _ from ⟨HB2.out.1.drew.trans' k2 (by simp; omega), k2.blk HB2.out.2.1.drew (by simp; omega), k1⟩)
      have k3' := HB3.out.2.1
      clear e0 e1 e2 e3 e4 e5 e6 e7 HB2 k1 k2 k3 lt0 lt1
      have e0 := k3'.cell (i := 0) rfl
      have e1 := k3'.cell (i := 1) rfl
      have e2 := k3'.cell (i := 2) rfl
      have e3 := k3'.cell (i := 3) rfl
      have e4 := k3'.cell (i := 4) rfl
      have e5 := k3'.cell (i := 5) rfl
      have e6 := k3'.cell (i := 6) rfl
      have e7 := k3'.cell (i := 7) rfl
      have lt0 := k3'.lt
      have lt1 := HB3.out.2.2.lt
      clear k3'
      go_wp2
      refine NoX.normal ?_
      go_wp2_with fail
      refine wp_region_text 3 [] [] [] (fun _ => True) (by kernel_rfl) (by kernel_rfl) trivial ?_
      simp only [List.take_succ_cons, List.take_zero, List.drop_succ_cons, List.drop_zero]
      repeat (first | ((refine wpText_h rfl rfl ?_; apply Exists.intro; refine ⟨?_, ?_⟩; next => (go_simp; (try (go_bits; go_simp)); (first | done | with_reducible rfl | (rw [if_neg (by omega)]; (try (go_bits; go_simp)); (first | done | with_reducible rfl)) | (rw [if_pos (by omega)]; (try (go_bits; go_simp)); (first | done | with_reducible rfl))))); (try simp only [Act.put, List.setIfInBounds_toArray, List.set_cons_zero, List.set_cons_succ])) | ((refine wpText_p rfl rfl ?_; apply Exists.intro; refine ⟨?_, ?_⟩; next => (intro w'; go_simp; (try (go_bits; go_simp)); (first | done | with_reducible rfl | (rw [if_neg (by omega)]; (try (go_bits; go_simp)); (first | done | with_reducible rfl)) | (rw [if_pos (by omega)]; (try (go_bits; go_simp)); (first | done | with_reducible rfl))))); (try simp only [Act.put, List.setIfInBounds_toArray, List.set_cons_zero, List.set_cons_succ])) | ((refine wpText_y rfl rfl ?_; apply Exists.intro; refine ⟨?_, ?_⟩; next => (intro w' hS; (first | obtain ⟨_, rfl⟩ := hS | skip); go_simp; (try (go_bits; go_simp)); (first | done | with_reducible rfl | (rw [if_neg (by omega)]; (try (go_bits; go_simp)); (first | done | with_reducible rfl)) | (rw [if_pos (by omega)]; (try (go_bits; go_simp)); (first | done | with_reducible rfl))))); (try simp only [Act.put, List.setIfInBounds_toArray, List.set_cons_zero, List.set_cons_succ])) | (refine wpText_skip (by first | exact .inl rfl | exact .inr (.inl rfl) | exact .inr (.inr rfl)) rfl ?_; (try simp only [Act.put, List.setIfInBounds_toArray, List.set_cons_zero, List.set_cons_succ])))
      refine wpText_nil ?_
      go_wp2_with fail
      refine (put4_ok w1.heap.size 12 8 123 _ p.src _ HB3.out.2.2.drew (by simp) (HF.out.src0) (HF.out.src1)).mono ?_
      rintro e v4 ⟨rfl, k1, k2, k3⟩
      simp only [List.set_cons_succ, List.set_cons_zero, Nat.reduceAdd] at k1
      have HB4 := hide (show _ ∧ _ ∧ _ from ⟨HB3.out.1.drew.trans' k2 (by simp; omega), k2.blk HB3.out.2.1.drew (by simp; omega), k1⟩)
      have k3' := HB4.out.2.1
      clear e0 e1 e2 e3 e4 e5 e6 e7 HB3 k1 k2 k3 lt0 lt1
      have e0 := k3'.cell (i := 0) rfl
      have e1 := k3'.cell (i := 1) rfl
      have e2 := k3'.cell (i := 2) rfl
      have e3 := k3'.cell (i := 3) rfl
      have e4 := k3'.cell (i := 4) rfl
      have e5 := k3'.cell (i := 5) rfl
      have e6 := k3'.cell (i := 6) rfl
      have e7 := k3'.cell (i := 7) rfl
      have lt0 := k3'.lt
      have lt1 := HB4.out.2.2.lt
      clear k3'
      go_wp2
      refine NoX.normal ?_
      go_wp2_with fail
      refine wp_region_text 3 [] [] [] (fun _ => True) (by kernel_rfl) (by kernel_rfl) trivial ?_
      simp only [List.take_succ_cons, List.take_zero, List.drop_succ_cons, List.drop_zero]
      repeat (first | ((refine wpText_h rfl rfl ?_; apply Exists.intro; refine ⟨?_, ?_⟩; next => (go_simp; (try (go_bits; go_simp)); (first | done | with_reducible rfl | (rw [if_neg (by omega)]; (try (go_bits; go_simp)); (first | done | with_reducible rfl)) | (rw [if_pos (by omega)]; (try (go_bits; go_simp)); (first | done | with_reducible rfl))))); (try simp only [Act.put, List.setIfInBounds_toArray, List.set_cons_zero, List.set_cons_succ])) | ((refine wpText_p rfl rfl ?_; apply Exists.intro; refine ⟨?_, ?_⟩; next => (intro w'; go_simp; (try (go_bits; go_simp)); (first | done | with_reducible rfl | (rw [if_neg (by omega)]; (try (go_bits; go_simp)); (first | done | with_reducible rfl)) | (rw [if_pos (by omega)]; (try (go_bits; go_simp)); (first | done | with_reducible rfl))))); (try simp only [Act.put, List.setIfInBounds_toArray, List.set_cons_zero, List.set_cons_succ])) | ((refine wpText_y rfl rfl ?_; apply Exists.intro; refine ⟨?_, ?_⟩; next => (intro w' hS; (first | obtain ⟨_, rfl⟩ := hS | skip); go_simp; (try (go_bits; go_simp)); (first | done | with_reducible rfl | (rw [if_neg (by omega)]; (try (go_bits; go_simp)); (first | done | with_reducible rfl)) | (rw [if_pos (by omega)]; (try (go_bits; go_simp)); (first | done | with_reducible rfl))))); (try simp only [Act.put, List.setIfInBounds_toArray, List.set_cons_zero, List.set_cons_succ])) | (refine wpText_skip (by first | exact .inl rfl | exact .inr (.inl rfl) | exact .inr (.inr rfl)) rfl ?_; (try simp only [Act.put, List.setIfInBounds_toArray, List.set_cons_zero, List.set_cons_succ])))
      refine wpText_nil ?_
      go_wp2_with fail
      refine (put4_ok w1.heap.size 16 4 123 _ p.dst _ HB4.out.2.2.drew (by simp) (HF.out.dst0) (HF.out.dst1)).mono ?_
      rintro e v5 ⟨rfl, k1, k2, k3⟩
      simp only [List.set_cons_succ, List.set_cons_zero, Nat.reduceAdd] at k1
      have HB5 := hide (show _ ∧ _ ∧ _ from ⟨HB4.out.1.drew.trans' k2 (by simp; omega), k2.blk HB4.out.2.1.drew (by simp; omega), k1⟩)
      have k3' := HB5.out.2.1
      clear e0 e1 e2 e3 e4 e5 e6 e7 HB4 k1 k2 k3 lt0 lt1
      have e0 := k3'.cell (i := 0) rfl
      have e1 := k3'.cell (i := 1) rfl
      have e2 := k3'.cell (i := 2) rfl
      have e3 := k3'.cell (i := 3) rfl
      have e4 := k3'.cell (i := 4) rfl
      have e5 := k3'.cell (i := 5) rfl
      have e6 := k3'.cell (i := 6) rfl
      have e7 := k3'.cell (i := 7) rfl
      have lt0 := k3'.lt
      have lt1 := HB5.out.2.2.lt
      clear k3'
      go_wp2
      refine NoX.normal ?_
      go_wp2_with fail
      have hH := Blk.to HB5.out.2.2 (cs' := hcells (hd p 0)) (hdr_eq HF.out 1 (by rw [HM.out]; rfl) r1 r2 r3 r4 r5 r6 r7 r8 r9)
      have HB6 := hide (show _ ∧ _ ∧ _ from ⟨HB5.out.1, HB5.out.2.1, hH⟩)
      clear HB5 hH
      refine wp_region_text 2 [] [0] [] (fun _ => True) (by kernel_rfl) (by kernel_rfl) trivial ?_
      simp only [List.take_succ_cons, List.take_zero, List.drop_succ_cons, List.drop_zero]
      repeat (first | ((refine wpText_h rfl rfl ?_; apply Exists.intro; refine ⟨?_, ?_⟩; next => (go_simp; (try (go_bits; go_simp)); (first | done | with_reducible rfl | (rw [if_neg (by omega)]; (try (go_bits; go_simp)); (first | done | with_reducible rfl)) | (rw [if_pos (by omega)]; (try (go_bits; go_simp)); (first | done | with_reducible rfl))))); (try simp only [Act.put, List.setIfInBounds_toArray, List.set_cons_zero, List.set_cons_succ])) | ((refine wpText_p rfl rfl ?_; apply Exists.intro; refine ⟨?_, ?_⟩; next => (intro w'; go_simp; (try (go_bits; go_simp)); (first | done | with_reducible rfl | (rw [if_neg (by omega)]; (try (go_bits; go_simp)); (first | done | with_reducible rfl)) | (rw [if_pos (by omega)]; (try (go_bits; go_simp)); (first | done | with_reducible rfl))))); (try simp only [Act.put, List.setIfInBounds_toArray, List.set_cons_zero, List.set_cons_succ])) | ((refine wpText_y rfl rfl ?_; apply Exists.intro; refine ⟨?_, ?_⟩; next => (intro w' hS; (first | obtain ⟨_, rfl⟩ := hS | skip); go_simp; (try (go_bits; go_simp)); (first | done | with_reducible rfl | (rw [if_neg (by omega)]; (try (go_bits; go_simp)); (first | done | with_reducible rfl)) | (rw [if_pos (by omega)]; (try (go_bits; go_simp)); (first | done | with_reducible rfl))))); (try simp only [Act.put, List.setIfInBounds_toArray, List.set_cons_zero, List.set_cons_succ])) | (refine wpText_skip (by first | exact .inl rfl | exact .inr (.inl rfl) | exact .inr (.inr rfl)) rfl ?_; (try simp only [Act.put, List.setIfInBounds_toArray, List.set_cons_zero, List.set_cons_succ])))
      refine wpText_h rfl rfl ⟨.agg (hcells (hd p 0)).toArray, ?_, ?_⟩
      · exact exec_load_cells 123 (.tmp 5) rfl w1.heap.size 0 rfl (hcells (hd p 0)) (d := _) (fun j v hv => by rw [Nat.zero_add]; exact HB6.out.2.2.drew.cell hv) Try.underlying123 rfl (by rw [show (hcells (hd p 0)).length = 20 by simp [hcells]]; kernel_rfl)
      try simp only [Act.put, List.setIfInBounds_toArray, List.set_cons_zero, List.set_cons_succ]
      repeat (first | ((refine wpText_h rfl rfl ?_; apply Exists.intro; refine ⟨?_, ?_⟩; next => (go_simp; (try (go_bits; go_simp)); (first | done | with_reducible rfl | (rw [if_neg (by omega)]; (try (go_bits; go_simp)); (first | done | with_reducible rfl)) | (rw [if_pos (by omega)]; (try (go_bits; go_simp)); (first | done | with_reducible rfl))))); (try simp only [Act.put, List.setIfInBounds_toArray, List.set_cons_zero, List.set_cons_succ])) | ((refine wpText_p rfl rfl ?_; apply Exists.intro; refine ⟨?_, ?_⟩; next => (intro w'; go_simp; (try (go_bits; go_simp)); (first | done | with_reducible rfl | (rw [if_neg (by omega)]; (try (go_bits; go_simp)); (first | done | with_reducible rfl)) | (rw [if_pos (by omega)]; (try (go_bits; go_simp)); (first | done | with_reducible rfl))))); (try simp only [Act.put, List.setIfInBounds_toArray, List.set_cons_zero, List.set_cons_succ])) | ((refine wpText_y rfl rfl ?_; apply Exists.intro; refine ⟨?_, ?_⟩; next => (intro w' hS; (first | obtain ⟨_, rfl⟩ := hS | skip); go_simp; (try (go_bits; go_simp)); (first | done | with_reducible rfl | (rw [if_neg (by omega)]; (try (go_bits; go_simp)); (first | done | with_reducible rfl)) | (rw [if_pos (by omega)]; (try (go_bits; go_simp)); (first | done | with_reducible rfl))))); (try simp only [Act.put, List.setIfInBounds_toArray, List.set_cons_zero, List.set_cons_succ])) | (refine wpText_skip (by first | exact .inl rfl | exact .inr (.inl rfl) | exact .inr (.inr rfl)) rfl ?_; (try simp only [Act.put, List.setIfInBounds_toArray, List.set_cons_zero, List.set_cons_succ])))
      refine wpText_nil ?_
      go_wp2_with fail
      refine (sum_ok (hd p 0) (hd_le HF.out HB.out (by omega)) _).mono ?_
      rintro e v6 ⟨rfl, ho⟩
      rw [show 65535 - sumw (hwords (hd p 0)) = p.sum from rfl]
      have ps := p.sum_le
      have wsum : IntKind.u32.wrap ((p.sum : Nat) : Int) = ((p.sum : Nat) : Int) := by rw [wrap32]; omega
      have HB7 := hide (show _ ∧ _ ∧ _ from ⟨Only.trans HB6.out.1.drew ho, ho.blk HB6.out.2.1.drew (by simp), ho.blk HB6.out.2.2.drew (by simp)⟩)
      clear ho HB6 e0 e1 e2 e3 e4 e5 e6 e7 lt0 lt1
      go_wp2_with fail
      refine (put2_ok w1.heap.size 10 10 123 _ ((p.sum : Nat) : Int) _ HB7.out.2.2 (by simp [hcells]) (by omega) (by omega)).mono ?_
      rintro e v7 ⟨rfl, k1, k2, k3⟩
      rw [hdr_sum p p.sum ps] at k1
      have HB8 := hide (show _ ∧ _ ∧ _ from ⟨HB7.out.1.trans' k2 (by simp; omega), k2.blk HB7.out.2.1 (by simp; omega), k1⟩)
      clear k1 k2 k3 HB7
      have e7 := HB8.out.2.1.cell (i := 7) rfl
      have lt0 := HB8.out.2.1.lt
      have lt1 := HB8.out.2.2.lt
      go_wp2
      refine NoX.normal ?_
      go_wp2_with fail
      refine wp_region_text 3 [] [] [] (fun _ => True) (by kernel_rfl) (by kernel_rfl) trivial ?_
      simp only [List.take_succ_cons, List.take_zero, List.drop_succ_cons, List.drop_zero]
      repeat (first | ((refine wpText_h rfl rfl ?_; apply Exists.intro; refine ⟨?_, ?_⟩; next => (go_simp; (try (go_bits; go_simp)); (first | done | with_reducible rfl | (rw [if_neg (by omega)]; (try (go_bits; go_simp)); (first | done | with_reducible rfl)) | (rw [if_pos (by omega)]; (try (go_bits; go_simp)); (first | done | with_reducible rfl))))); (try simp only [Act.put, List.setIfInBounds_toArray, List.set_cons_zero, List.set_cons_succ])) | ((refine wpText_p rfl rfl ?_; apply Exists.intro; refine ⟨?_, ?_⟩; next => (intro w'; go_simp; (try (go_bits; go_simp)); (first | done | with_reducible rfl | (rw [if_neg (by omega)]; (try (go_bits; go_simp)); (first | done | with_reducible rfl)) | (rw [if_pos (by omega)]; (try (go_bits; go_simp)); (first | done | with_reducible rfl))))); (try simp only [Act.put, List.setIfInBounds_toArray, List.set_cons_zero, List.set_cons_succ])) | ((refine wpText_y rfl rfl ?_; apply Exists.intro; refine ⟨?_, ?_⟩; next => (intro w' hS; (first | obtain ⟨_, rfl⟩ := hS | skip); go_simp; (try (go_bits; go_simp)); (first | done | with_reducible rfl | (rw [if_neg (by omega)]; (try (go_bits; go_simp)); (first | done | with_reducible rfl)) | (rw [if_pos (by omega)]; (try (go_bits; go_simp)); (first | done | with_reducible rfl))))); (try simp only [Act.put, List.setIfInBounds_toArray, List.set_cons_zero, List.set_cons_succ])) | (refine wpText_skip (by first | exact .inl rfl | exact .inr (.inl rfl) | exact .inr (.inr rfl)) rfl ?_; (try simp only [Act.put, List.setIfInBounds_toArray, List.set_cons_zero, List.set_cons_succ])))
      refine wpText_nil ?_
      obtain ⟨A', c', W', hr, q1, q2, -, hcc⟩ := append_full v7.drew w1.heap.size 20 123 ((List.range 20).map (hd p p.sum)) (Blk.to HB8.out.2.2.drew (by simp [hcells, bcells])) (by simp) p.A p.data _ p.cap rfl (HA.out.only HB8.out.1.drew) (by omega) (NumsIn.none HA.out)
      have HR := hide hr
      have HQ := hide (And.intro (Only.trans HB8.out.1.drew q1) q2)
      have HCC := hide hcc
      clear hr q1 q2 HB8 e7 lt0 lt1 hcc
      go_wp2_with (at_builtin; refine wpList_append_eq rfl (.tmp 50) (.tmp 52) 28 rfl _ _ _ rfl rfl HR.out ?_)
      refine NoX.normal ?_
      go_wp2
      go_ret2
      refine ⟨⟨_, by rw [hv]; rfl, ?_⟩, HQ.out.1⟩
      rw [if_neg HB.out]
      exact ⟨some A', c', by unfold Pkt.bytes; simp, HQ.out.2, by unfold Pkt.bytes; simpa using HCC.out⟩

end Go.Proofs.Ytlnejlhdkmneeaa
