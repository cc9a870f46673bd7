/- Plain facts for exact proportions: long division by digits, division bit by bit, fractions. -/
import Derived.Below
namespace Go.Proofs.Ytbpfdogjjoceaaa

section
variable {u y y1 y0 u1 q r B : Int}
theorem kd_lt (hy : 0 < y) (hu : u < y) (h1 : u1 < B) (hB : 0 < B) : (u * B + u1) / y < B := by
  rw [Int.ediv_lt_iff_lt_mul hy]
  have h : (u + 1) * B ≤ y * B := Int.mul_le_mul_of_nonneg_right (by omega) (by omega)
  rw [Int.add_mul, Int.one_mul, Int.mul_comm y B] at h
  omega
theorem kd_mul (hy : y = y1 * B + y0) (hq : u = q * y1 + r) : q * y = u * B - r * B + q * y0 := by
  subst hy; subst hq; grind
theorem kd_over (h0 : 0 < y) (hy : y = y1 * B + y0) (hq : u = q * y1 + r) (h : r * B + u1 < q * y0) : (u * B + u1) / y ≤ q - 1 := by
  have hm := kd_mul hy hq
  have : (u * B + u1) / y < q := by rw [Int.ediv_lt_iff_lt_mul h0]; omega
  omega
theorem kd_fit (h0 : 0 < y) (hy : y = y1 * B + y0) (hq : u = q * y1 + r) (h : q * y0 ≤ r * B + u1) : q ≤ (u * B + u1) / y := by
  have hm := kd_mul hy hq
  rw [Int.le_ediv_iff_mul_le h0]; omega
theorem kd_far (hB : 0 < B) (hy1 : 0 < y1) (hy0 : 0 ≤ y0) (hy0' : y0 < B) (hy : y = y1 * B + y0) (hu : u < y) (hu1 : 0 ≤ u1) (hq : u = q * y1 + r) (hr : B ≤ r) : q < B ∧ q * y0 ≤ r * B + u1 := by
  have h1 : q * y1 < B * y1 := by grind
  have h2 : q < B := by
    rcases Int.lt_or_le q B with h | h
    · exact h
    · exact absurd (Int.mul_le_mul_of_nonneg_right h (Int.le_of_lt hy1)) (by omega)
  refine ⟨h2, ?_⟩
  have h3 : q * y0 ≤ B * y0 := Int.mul_le_mul_of_nonneg_right (by omega) hy0
  have h4 : B * y0 ≤ B * B := Int.mul_le_mul_of_nonneg_left (by omega) (by omega)
  have h5 : B * B ≤ r * B := Int.mul_le_mul_of_nonneg_right hr (by omega)
  omega
end

section
variable {d n m : Int}
theorem dv_add (hd : 0 < d) (n m : Int) : (n + m) / d = n / d + m / d + (if d ≤ n % d + m % d then 1 else 0) ∧ (n + m) % d = n % d + m % d - (if d ≤ n % d + m % d then d else 0) := by
  rw [Int.ediv_emod_unique hd]
  have h1 := Int.mul_ediv_add_emod n d
  have h2 := Int.mul_ediv_add_emod m d
  have h3 := Int.emod_nonneg n (show d ≠ 0 by omega)
  have h4 := Int.emod_nonneg m (show d ≠ 0 by omega)
  have h5 := Int.emod_lt_of_pos n hd
  have h6 := Int.emod_lt_of_pos m hd
  split <;> refine ⟨?_, by omega, by omega⟩ <;> grind
end

/-- the state of the division bit by bit: p of a0 * b are divided already; a is what is left of a0 below 2 * bit -/
def DvAt (a0 b d : Int) (bit a q r : Int) : Prop :=
  ∃ p : Int, 0 ≤ p ∧ q = p * b / d ∧ r = p * b % d ∧ ((bit = 0 ∧ a0 = p) ∨ ∃ j : Nat, j ≤ 60 ∧ bit = 2 ^ j ∧ a0 = p * (2 * bit) + a ∧ 0 ≤ a ∧ a < 2 * bit)
theorem DvAt.start {a0 b d : Int} (h0 : 0 ≤ a0) (h1 : a0 ≤ 1152921504606846976) : DvAt a0 b d 1152921504606846976 a0 0 0 :=
  ⟨0, by omega, by simp, by simp, .inr ⟨60, by omega, by decide, by omega, h0, by omega⟩⟩
theorem DvAt.done {a0 b d a q r : Int} (h : DvAt a0 b d 0 a q r) : q = a0 * b / d ∧ r = a0 * b % d := by
  obtain ⟨p, _, hq, hr, ⟨_, rfl⟩ | ⟨j, _, hj, _⟩⟩ := h
  · exact ⟨hq, hr⟩
  · exact absurd hj (by have : (0 : Int) < 2 ^ j := Int.pow_pos (by omega); omega)
theorem DvAt.r {a0 b d bit a q r : Int} (hd : 0 < d) (h : DvAt a0 b d bit a q r) : 0 ≤ r ∧ r < d := by
  obtain ⟨p, _, hq, rfl, _⟩ := h
  exact ⟨Int.emod_nonneg _ (by omega), Int.emod_lt_of_pos _ hd⟩
theorem DvAt.big {a0 b d bit a q r M : Int} (hd : 0 < d) (hb : 0 ≤ b) (h : DvAt a0 b d bit a q r) (hM : M < q) : M < a0 * b / d := by
  obtain ⟨p, hp, rfl, _, hor⟩ := h
  have : p ≤ a0 := by
    rcases hor with ⟨_, rfl⟩ | ⟨j, _, hj, e, h0, _⟩
    · omega
    · have : (0 : Int) < 2 ^ j := Int.pow_pos (by omega)
      have : p * 1 ≤ p * (2 * bit) := Int.mul_le_mul_of_nonneg_left (by omega) hp
      omega
  have : p * b ≤ a0 * b := Int.mul_le_mul_of_nonneg_right this hb
  have := Int.ediv_le_ediv hd this
  omega
theorem half_pow (j : Nat) : (2 : Int) ^ (j + 1) / 2 = 2 ^ j := by rw [Int.pow_succ]; omega
/-- one round -/
theorem DvAt.step {a0 b d bit a q r : Int} (hd : 0 < d) (hbit : 0 < bit) (h : DvAt a0 b d bit a q r) :
    let q1 := 2 * q + (if d ≤ 2 * r then 1 else 0)
    let r1 := 2 * r - (if d ≤ 2 * r then d else 0)
    (a < bit → DvAt a0 b d (bit / 2) a q1 r1) ∧ (bit ≤ a → DvAt a0 b d (bit / 2) (a - bit) (q1 + b / d + (if d ≤ r1 + b % d then 1 else 0)) (r1 + b % d - (if d ≤ r1 + b % d then d else 0))) := by
  obtain ⟨p, hp, rfl, rfl, hor⟩ := h
  rcases hor with ⟨h0, _⟩ | ⟨j, hj, hbj, ha, ha0, ha1⟩
  · omega
  intro q1 r1
  obtain ⟨e1, e2⟩ := dv_add hd (p * b) (p * b)
  have f1 : (2 * p) * b / d = q1 := by rw [show 2 * p * b = p * b + p * b by grind, e1]; simp only [q1]; rw [show 2 * (p * b % d) = p * b % d + p * b % d by omega]; omega
  have f2 : (2 * p) * b % d = r1 := by rw [show 2 * p * b = p * b + p * b by grind, e2]; simp only [r1]; rw [show 2 * (p * b % d) = p * b % d + p * b % d by omega]
  have hnew : ∀ (p' a' : Int), a0 = p' * bit + a' → 0 ≤ a' → a' < bit → ((bit / 2 = 0 ∧ a0 = p') ∨ ∃ j : Nat, j ≤ 60 ∧ bit / 2 = 2 ^ j ∧ a0 = p' * (2 * (bit / 2)) + a' ∧ 0 ≤ a' ∧ a' < 2 * (bit / 2)) := by
    intro p' a' e h1 h2
    match j, hj, hbj with
    | 0, _, hbj => left; rw [hbj] at e h2 ⊢; simp at *; omega
    | j + 1, hj, hbj =>
      right
      have hp2 : (2 : Int) ^ (j + 1) = 2 * 2 ^ j := by rw [Int.pow_succ]; omega
      have hh : bit / 2 = 2 ^ j := by rw [hbj]; exact half_pow j
      refine ⟨j, by omega, hh, ?_, h1, ?_⟩
      · rw [hh, ← hp2, ← hbj]; exact e
      · rw [hh, ← hp2, ← hbj]; exact h2
  refine ⟨fun hlt => ⟨2 * p, by omega, f1.symm, f2.symm, hnew _ _ (by rw [ha]; grind) ha0 hlt⟩, fun hle => ⟨2 * p + 1, by omega, ?_, ?_, hnew _ _ (by rw [ha]; grind) (by omega) (by omega)⟩⟩
  · rw [show (2 * p + 1) * b = 2 * p * b + b by grind, (dv_add hd (2 * p * b) b).1, f1, f2]
  · rw [show (2 * p + 1) * b = 2 * p * b + b by grind, (dv_add hd (2 * p * b) b).2, f2]

/-- a/b against c/d -/
def cmpF (a b c d : Int) : Int := if a * d < c * b then -1 else if a * d = c * b then 0 else 1
theorem cmpF_gt {a b c d : Int} (hb : 0 < b) (hd : 0 < d) (h : c / d < a / b) : cmpF a b c d = 1 := by
  have h1 : c * b < a * d := by
    have e1 := Int.mul_ediv_add_emod a b
    have e2 := Int.mul_ediv_add_emod c d
    have m1 := Int.emod_nonneg a (show b ≠ 0 by omega)
    have m2 := Int.emod_lt_of_pos c hd
    have h2 : (c / d + 1) * (b * d) ≤ (a / b) * (b * d) := Int.mul_le_mul_of_nonneg_right (by omega) (Int.le_of_lt (Int.mul_pos hb hd))
    have h3 : c * b < (c / d + 1) * (b * d) := by
      have : c * b < (d * (c / d) + d) * b := Int.mul_lt_mul_of_pos_right (by omega) hb
      grind
    have h4 : (a / b) * (b * d) ≤ a * d := by
      have : (b * (a / b)) * d ≤ a * d := Int.mul_le_mul_of_nonneg_right (by omega) (by omega)
      grind
    omega
  unfold cmpF; rw [if_neg (by omega), if_neg (by omega)]
theorem cmpF_neg (a b c d : Int) : cmpF c d a b = - cmpF a b c d := by
  unfold cmpF
  by_cases h : a * d < c * b
  · rw [if_pos h, if_neg (by omega), if_neg (by omega)]; rfl
  · rw [if_neg h]
    by_cases h2 : a * d = c * b
    · rw [if_pos h2, if_neg (by omega), if_pos h2.symm]; rfl
    · rw [if_neg h2, if_pos (by omega)]
theorem cmpF_lt {a b c d : Int} (hb : 0 < b) (hd : 0 < d) (h : a / b < c / d) : cmpF a b c d = -1 := by
  rw [cmpF_neg, cmpF_gt hd hb h]
theorem cmpF_rests {a b c d : Int} (h : a / b = c / d) : a * d - c * b = (a % b) * d - (c % d) * b := by
  have e1 := Int.mul_ediv_add_emod a b
  have e2 := Int.mul_ediv_add_emod c d
  generalize a % b = p at *
  generalize c % d = q at *
  rw [h] at e1
  generalize c / d = k at *
  subst e1 e2
  grind
theorem cmpF_zero {a b c d : Int} (h : a / b = c / d) (hp : a % b = 0) (hq : c % d = 0) : cmpF a b c d = 0 := by
  have := cmpF_rests h
  rw [hp, hq] at this
  simp at this
  unfold cmpF; rw [if_neg (by omega), if_pos (by omega)]
theorem cmpF_pz {a b c d : Int} (hb : 0 < b) (h : a / b = c / d) (hp : a % b = 0) (hq : 0 < c % d) : cmpF a b c d = -1 := by
  have := cmpF_rests h
  rw [hp] at this
  simp at this
  have := Int.mul_pos hq hb
  unfold cmpF; rw [if_pos (by omega)]
theorem cmpF_qz {a b c d : Int} (hd : 0 < d) (h : a / b = c / d) (hp : 0 < a % b) (hq : c % d = 0) : cmpF a b c d = 1 := by
  rw [cmpF_neg, cmpF_pz hd h.symm hq hp]; rfl
theorem cmpF_next {a b c d : Int} (h : a / b = c / d) : cmpF a b c d = - cmpF b (a % b) d (c % d) := by
  have e := cmpF_rests h
  rw [← cmpF_neg]
  have e' : d * (a % b) - b * (c % d) = a * d - c * b := by rw [e, Int.mul_comm d, Int.mul_comm b]
  have l1 : (d * (a % b) < b * (c % d)) ↔ (a * d < c * b) := by omega
  have l2 : (d * (a % b) = b * (c % d)) ↔ (a * d = c * b) := by omega
  unfold cmpF
  simp only [l1, l2]
/-- two words each, the high ones first -/
theorem cmpF_words (x z : Int) :
    (if x / 18446744073709551616 < z / 18446744073709551616 then (-1 : Int) else if x / 18446744073709551616 = z / 18446744073709551616 then (if x % 18446744073709551616 < z % 18446744073709551616 then -1 else if x % 18446744073709551616 = z % 18446744073709551616 then 0 else 1) else 1) = (if x < z then -1 else if x = z then 0 else 1) := by
  split
  · rw [if_pos (by omega)]
  · split
    · split
      · rw [if_pos (by omega)]
      · split
        · rw [if_neg (by omega), if_pos (by omega)]
        · rw [if_neg (by omega), if_neg (by omega)]
    · rw [if_neg (by omega), if_neg (by omega)]
end Go.Proofs.Ytbpfdogjjoceaaa
