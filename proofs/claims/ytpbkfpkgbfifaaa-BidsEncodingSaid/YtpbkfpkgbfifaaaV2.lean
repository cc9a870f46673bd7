/- Plain facts on reading variable-length numbers. -/
import Derived.Test.YtpbkfpkgbfifaaaV
namespace Go.Proofs.Ytpbkfpkgbfifaaa
open Go.RowKit

/-- read a number: i bytes have been read, they make n; what it is, the bytes that are left, the error -/
def rdU : Nat → Nat → List Int → Nat × List Int × Int
  | _, _, [] => (0, [], 3)
  | i, n, b :: r => if (i = 9 ∧ 1 < b) ∨ (0 < i ∧ b = 0) then (0, r, 2) else if b < 128 then (n + b.toNat * 128 ^ i, r, 0) else rdU (i + 1) (n + (b.toNat % 128) * 128 ^ i) r

/-- what is read off the encoding of v is v -/
theorem rdU_uv : ∀ (v i n : Nat) (r : List Int), i ≤ 9 → (0 < i → 0 < v) → n + v * 128 ^ i < 18446744073709551616 → rdU i n (uv v ++ r) = (n + v * 128 ^ i, r, 0) := by
  intro v
  induction v using Nat.strongRecOn with
  | _ v ih =>
    intro i n r hi h0 hv
    by_cases hs : v < 128
    · rw [uv_small hs]
      show (if (i = 9 ∧ 1 < (v : Int)) ∨ (0 < i ∧ (v : Int) = 0) then _ else if (v : Int) < 128 then _ else _) = _
      rw [if_neg, if_pos (by omega)]
      · simp
      · rintro (⟨rfl, h⟩ | ⟨h1, h2⟩)
        · have : (128 : Nat) ^ 9 = 9223372036854775808 := by decide
          rw [this] at hv; omega
        · have := h0 h1; omega
    · rw [uv_big hs]
      have hi9 : i < 9 := by
        rcases Nat.lt_or_ge i 9 with h | h
        · exact h
        · have : i = 9 := by omega
          subst this
          have : (128 : Nat) ^ 9 = 9223372036854775808 := by decide
          rw [this] at hv; omega
      show (if (i = 9 ∧ 1 < ((v % 128 + 128 : Nat) : Int)) ∨ (0 < i ∧ ((v % 128 + 128 : Nat) : Int) = 0) then _ else if ((v % 128 + 128 : Nat) : Int) < 128 then _ else rdU (i + 1) (n + ((((v % 128 + 128 : Nat) : Int)).toNat % 128) * 128 ^ i) (uv (v / 128) ++ r)) = _
      rw [if_neg (by omega), if_neg (by omega), Int.toNat_natCast, show (v % 128 + 128) % 128 = v % 128 by omega]
      have hp : (128 : Nat) ^ (i + 1) = 128 * 128 ^ i := by rw [Nat.pow_succ, Nat.mul_comm]
      have hsum : n + (v % 128) * 128 ^ i + (v / 128) * 128 ^ (i + 1) = n + v * 128 ^ i := by
        rw [hp, ← Nat.mul_assoc, Nat.add_assoc, ← Nat.add_mul]
        congr 2
        omega
      rw [ih (v / 128) (by omega) (i + 1) _ r (by omega) (fun _ => by omega) (by rw [hsum]; exact hv), hsum]
/-- what was read without an error is the encoding of what it gave -/
theorem rdU_back : ∀ (l : List Int) (i n v : Nat) (r : List Int), (∀ x ∈ l, 0 ≤ x ∧ x ≤ 255) → i ≤ 9 → n < 128 ^ i → rdU i n l = (v, r, 0) → ∃ u, v = n + u * 128 ^ i ∧ l = uv u ++ r ∧ v < 18446744073709551616 ∧ (0 < i → 0 < u)
  | [], _, _, _, _, _, _, _, h => by simp [rdU] at h
  | b :: l, i, n, v, r, hb, hi, hn, h => by
    have hb0 := hb b List.mem_cons_self
    rw [rdU] at h
    split at h
    · simp at h
    · rename_i hbad
      split at h
      · rename_i hlt
        simp only [Prod.mk.injEq, and_true] at h
        obtain ⟨rfl, rfl⟩ := h
        refine ⟨b.toNat, rfl, ?_, ?_, ?_⟩
        · rw [uv_small (by omega)]; simp; omega
        · rcases Nat.lt_or_ge i 9 with h9 | h9
          · have h1 : (128 : Nat) ^ i ≤ 128 ^ 8 := Nat.pow_le_pow_right (by omega) (by omega)
            have h2 : (128 : Nat) ^ 8 = 72057594037927936 := by decide
            have h3 : b.toNat * 128 ^ i ≤ 127 * 128 ^ i := Nat.mul_le_mul_right _ (by omega)
            omega
          · have : i = 9 := by omega
            subst this
            have h2 : (128 : Nat) ^ 9 = 9223372036854775808 := by decide
            rw [h2] at hn ⊢
            omega
        · intro h0
          rcases Nat.eq_zero_or_pos b.toNat with hz | hz
          · exact absurd (Or.inr ⟨h0, by omega⟩) hbad
          · exact hz
      · rename_i hge
        have h9 : i ≠ 9 := fun h9 => hbad (Or.inl ⟨h9, by omega⟩)
        have hp : (128 : Nat) ^ (i + 1) = 128 * 128 ^ i := by rw [Nat.pow_succ, Nat.mul_comm]
        have hm : (b.toNat % 128) * 128 ^ i ≤ 127 * 128 ^ i := Nat.mul_le_mul_right _ (by omega)
        obtain ⟨u, hv, hl, hlt, hpos⟩ := rdU_back l (i + 1) (n + (b.toNat % 128) * 128 ^ i) v r (fun x hx => hb x (List.mem_cons_of_mem _ hx)) (by omega) (by rw [hp]; omega) h
        have hu := hpos (by omega)
        refine ⟨u * 128 + b.toNat % 128, ?_, ?_, hlt, fun _ => by omega⟩
        · rw [hv, hp, Nat.add_mul, Nat.add_assoc, Nat.add_comm (u * 128 * 128 ^ i), Nat.mul_assoc u]
        · rw [uv_big (by omega), hl, show (u * 128 + b.toNat % 128) / 128 = u by omega]
          simp only [List.cons_append, List.cons.injEq, and_true]
          omega
def unzig (z : Nat) : Int := if z % 2 = 1 then -((z / 2 : Nat) : Int) - 1 else ((z / 2 : Nat) : Int)
theorem unzig_zig (n : Int) : unzig (zig n) = n := by
  unfold unzig zig
  by_cases h : 0 ≤ n
  · rw [if_pos h, if_neg (by omega)]; omega
  · rw [if_neg h, if_pos (by omega)]; omega
theorem zig_unzig (z : Nat) : zig (unzig z) = z := by
  unfold unzig zig
  by_cases h : z % 2 = 1
  · rw [if_pos h, if_neg (by omega)]; omega
  · rw [if_neg h, if_pos (by omega)]; omega
theorem unzig_range {z : Nat} (h : z < 18446744073709551616) : -9223372036854775808 ≤ unzig z ∧ unzig z ≤ 9223372036854775807 := by
  unfold unzig; split <;> omega

theorem and127_fin : ∀ x : Fin 256, bits .and .u8 ((x.val : Nat) : Int) 127 = ((x.val % 128 : Nat) : Int) := by decide +kernel
theorem and127 (x : Int) (h0 : 0 ≤ x) (h1 : x ≤ 255) : bits .and .u8 x 127 = ((x.toNat % 128 : Nat) : Int) := by
  have := and127_fin ⟨x.toNat, by omega⟩
  simp only at this
  rwa [show ((x.toNat : Nat) : Int) = x by omega] at this
theorem bits_or_u64 (a b : Nat) (ha : a < 18446744073709551616) (hb : b < 18446744073709551616) : bits .or .u64 (a : Int) (b : Int) = ((a ||| b : Nat) : Int) := by
  have e : bits .or .u64 (a : Int) (b : Int) = IntKind.u64.wrap ((BitVec.ofInt 64 (a : Int) ||| BitVec.ofInt 64 (b : Int)).toNat : Int) := rfl
  have hx : a ||| b < 2 ^ 64 := Nat.or_lt_two_pow (by omega) (by omega)
  rw [e, BitVec.toNat_or, BitVec.ofInt_natCast, BitVec.ofInt_natCast, BitVec.toNat_ofNat, BitVec.toNat_ofNat, Nat.mod_eq_of_lt (by omega), Nat.mod_eq_of_lt (by omega), IntKind.wrap_u64]
  omega
theorem pow_128 (i : Nat) : (128 : Nat) ^ i = 2 ^ (7 * i) := by rw [Nat.pow_mul]
theorem or_shift (b : Int) (m i : Nat) (h0 : 0 ≤ b) (h1 : b ≤ 255) (hm : m < 128 ^ i) (hlt : m + (b.toNat % 128) * 128 ^ i < 18446744073709551616) :
    bits .or .u64 (m : Int) (IntKind.u64.wrap (IntKind.u64.wrap (bits .and .u8 b 127) * 2 ^ (7 * i))) = ((m + (b.toNat % 128) * 128 ^ i : Nat) : Int) := by
  rw [and127 b h0 h1]
  have hw : ∀ x : Nat, x < 18446744073709551616 → IntKind.u64.wrap (x : Int) = (x : Int) := fun x hx => by rw [IntKind.wrap_u64]; omega
  rw [hw _ (by omega)]
  have e : (((b.toNat % 128 : Nat) : Int) * 2 ^ (7 * i)) = (((b.toNat % 128) * 128 ^ i : Nat) : Int) := by
    rw [pow_128]; simp
  rw [e, hw _ (by omega), bits_or_u64 _ _ (by omega) (by omega)]
  congr 1
  rw [pow_128] at hm ⊢
  rw [Nat.or_comm, Nat.mul_comm, ← Nat.two_pow_add_eq_or_of_lt hm, Nat.add_comm]

theorem shift_lt {b : Int} {m i : Nat} (h0 : 0 ≤ b) (hm : m < 128 ^ i) (hi : i ≤ 9) (h9 : ¬ (i = 9 ∧ 1 < b)) : m + (b.toNat % 128) * 128 ^ i < 18446744073709551616 ∧ (i ≠ 9 → m + (b.toNat % 128) * 128 ^ i < 128 ^ (i + 1)) := by
  have hp : (128 : Nat) ^ (i + 1) = 128 * 128 ^ i := by rw [Nat.pow_succ, Nat.mul_comm]
  have hk : (b.toNat % 128) * 128 ^ i ≤ 127 * 128 ^ i := Nat.mul_le_mul_right _ (by omega)
  have e9 : (128 : Nat) ^ 9 = 9223372036854775808 := by decide
  by_cases h : i = 9
  · subst h
    have hb : b ≤ 1 := by
      rcases Int.lt_or_le 1 b with h | h
      · exact absurd ⟨rfl, h⟩ h9
      · exact h
    refine ⟨?_, fun h => absurd rfl h⟩
    have : (b.toNat % 128) * 128 ^ 9 ≤ 1 * 128 ^ 9 := Nat.mul_le_mul_right _ (by omega)
    omega
  · have h8 : (128 : Nat) ^ (i + 1) ≤ 128 ^ 9 := Nat.pow_le_pow_right (by omega) (by omega)
    exact ⟨by omega, fun _ => by omega⟩
theorem rdU_err {i n : Nat} {b : Int} {r : List Int} (h : (i = 9 ∧ 1 < b) ∨ (0 < i ∧ b = 0)) : rdU i n (b :: r) = (0, r, 2) := by rw [rdU, if_pos h]
theorem rdU_last {i n : Nat} {b : Int} {r : List Int} (h0 : 0 ≤ b) (h : ¬ ((i = 9 ∧ 1 < b) ∨ (0 < i ∧ b = 0))) (hb : b < 128) : rdU i n (b :: r) = (n + (b.toNat % 128) * 128 ^ i, r, 0) := by
  rw [rdU, if_neg h, if_pos hb, show b.toNat % 128 = b.toNat by omega]
theorem rdU_more {i n : Nat} {b : Int} {r : List Int} (h : ¬ ((i = 9 ∧ 1 < b) ∨ (0 < i ∧ b = 0))) (hb : ¬ b < 128) : rdU i n (b :: r) = rdU (i + 1) (n + (b.toNat % 128) * 128 ^ i) r := by
  rw [rdU, if_neg h, if_neg hb]

theorem and1_u64 (z : Nat) (hz : z < 18446744073709551616) : bits .and .u64 (z : Int) 1 = ((z % 2 : Nat) : Int) := by
  have e : bits .and .u64 (z : Int) 1 = IntKind.u64.wrap ((BitVec.ofInt 64 (z : Int) &&& BitVec.ofInt 64 1).toNat : Int) := rfl
  have e1 : BitVec.ofInt 64 1 = 1#64 := by decide
  rw [e, e1, BitVec.toNat_and, BitVec.ofInt_natCast, BitVec.toNat_ofNat, Nat.mod_eq_of_lt (by omega)]
  show IntKind.u64.wrap ((z &&& 1 : Nat) : Int) = _
  rw [Nat.and_one_is_mod, IntKind.wrap_u64]; omega
theorem unzig_bits (z : Nat) (hz : z < 18446744073709551616) : bits .xor .i64 (wrap64 ((z : Int) / 2)) (wrap64 (-wrap64 (bits .and .u64 (z : Int) 1))) = unzig z := by
  rw [and1_u64 z hz, IntWalk.wrap64_in _ ⟨by omega, by omega⟩, IntWalk.wrap64_in ((z % 2 : Nat) : Int) ⟨by omega, by omega⟩, IntWalk.wrap64_in _ ⟨by omega, by omega⟩]
  have e : ∀ a b : Int, bits .xor .i64 a b = IntKind.i64.wrap ((BitVec.ofInt 64 a ^^^ BitVec.ofInt 64 b).toNat : Int) := fun _ _ => rfl
  rw [e, show (z : Int) / 2 = ((z / 2 : Nat) : Int) by omega]
  unfold unzig
  by_cases h : z % 2 = 1
  · rw [if_pos h, h]
    have e3 : BitVec.ofInt 64 (-((1 : Nat) : Int)) = BitVec.allOnes 64 := by decide
    rw [e3, BitVec.xor_allOnes, BitVec.toNat_not, BitVec.ofInt_natCast, BitVec.toNat_ofNat, Nat.mod_eq_of_lt (by omega), IntKind.wrap_i64]
    omega
  · rw [if_neg h, show z % 2 = 0 by omega]
    have e3 : BitVec.ofInt 64 (-((0 : Nat) : Int)) = 0#64 := by decide
    rw [e3, BitVec.xor_zero, BitVec.ofInt_natCast, BitVec.toNat_ofNat, Nat.mod_eq_of_lt (by omega), IntKind.wrap_i64]
    omega
end Go.Proofs.Ytpbkfpkgbfifaaa
