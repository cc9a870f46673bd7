/- Lemmas of the claim, joined: Sh S1 S2 S4 S3 S5 S6 S7 S8. No condition. -/
import Derived.Shelf.Small.Bits
import Derived.Shelf.Strconv.Itoa0
import Derived.Shelf.Bits.Mul64
import Derived.Test.YtgbamgijpgjmgaaProg
import Derived.Below
import Derived.Test.YtgbamgijpgjmgaaBA
import Derived.Test.YtgbamgijpgjmgaaChecked
import Derived.Deep.DeepCutAuto
import Derived.Deep.CutBlock
import Derived.Laws.Bits64b
/-
  DERIVED: THE SHELF's CONTRACTS AT THIS DUMP, IN PLAIN WORDS (tools/lay-plain.mjs out of 'YtgbamgijpgjmgaaSh.lean', which tools/lay-shelf.mjs wrote): THE SAME DECLARATIONS UNDER THE SAME NAMES: 'import', 'namespace', 'open', 'def', 'theorem' AND NOTHING ELSE: no command of the shelf's: FOR A HAND-IN. Each laying: the table of numbers ('.._ren') and one theorem, a field a fact of the dump's own or the kernel's comparison; each contract: ONE APPLICATION.
-/
namespace Go.Proofs
open Go.Shelf
def Try.lays134_ren : Go.Shelf.Ren := ⟨fun | 134 => 107 | 129 => 118 | n => n, fun | 53 => 60 | 3 => 3 | 4 => 4 | 46 => 106 | 5 => 5 | 9 => 9 | n => n, fun | n => n⟩
theorem Try.lays134 : Go.Proofs.Lays.n134 Try.prog Try.lays134_ren := {
  mixed := by kernel_rfl
  f129 := Try.func118.trans (congrArg some (by kernel_rfl))
  f134 := Try.func107.trans (congrArg some (by kernel_rfl))
  t3 := Try.underlying3
  a3 := Try.isAgg3
  z3 := Try.sizeOf3
  v3 := Try.zeroValue3
  t4 := Try.underlying4
  a4 := Try.isAgg4
  z4 := Try.sizeOf4
  v4 := Try.zeroValue4
  t5 := Try.underlying5
  a5 := Try.isAgg5
  z5 := Try.sizeOf5
  v5 := Try.zeroValue5
  t9 := Try.underlying9
  a9 := Try.isAgg9
  z9 := Try.sizeOf9
  v9 := Try.zeroValue9
  t46 := Try.underlying106
  a46 := Try.isAgg106
  z46 := Try.sizeOf106
  v46 := Try.zeroValue106
  t53 := Try.underlying60
  a53 := Try.isAgg60
  z53 := Try.sizeOf60
  v53 := Try.zeroValue60 }
theorem Try.bits_LeadingZeros64 (x : Int) (w : World) (h0 : 0 ≤ x) (h1 : x ≤ 18446744073709551615) :
    Calls Try.prog 107 #[.int .u64 x] w fun e w' => e = .returned (.int .i64 (64 - (Lib.bitLen x.toNat : Int))) ∧ w' = w := Any.bits_LeadingZeros64 Try.lays134 x w h0 h1
def Try.lays264_ren : Go.Shelf.Ren := ⟨fun | 264 => 89 | n => n, fun | 53 => 60 | 46 => 106 | n => n, fun | n => n⟩
theorem Try.lays264 : Go.Proofs.Lays.n264 Try.prog Try.lays264_ren := {
  mixed := by kernel_rfl
  f264 := Try.func89.trans (congrArg some (by kernel_rfl))
  t46 := Try.underlying106
  a46 := Try.isAgg106
  z46 := Try.sizeOf106
  v46 := Try.zeroValue106
  t53 := Try.underlying60
  a53 := Try.isAgg60
  z53 := Try.sizeOf60
  v53 := Try.zeroValue60 }
open Go.RowKit Go.Lib in
theorem Try.bits_Mul64 (x y : Nat) (hx : x < 18446744073709551616) (hy : y < 18446744073709551616) (w : World) :
    Calls Try.prog 89 #[.int .u64 x, .int .u64 y] w fun e w' => e = .returned (.tuple #[.int .u64 ((x * y / 18446744073709551616 : Nat) : Int), .int .u64 ((x * y % 18446744073709551616 : Nat) : Int)]) ∧ w' = w := Any.bits_Mul64 Try.lays264 x y hx hy w
end Go.Proofs
/- Plain facts for exact proportions: long division by digits, division bit by bit, fractions. -/
namespace Go.Proofs.Ytgbamgijpgjmgaa

section
variable {u y y1 y0 u1 q r B : Int}
theorem kd_lt (hy : 0 < y) (hu : u < y) (h1 : u1 < B) (hB : 0 < B) : (u * B + u1) / y < B := by
  rw [Int.ediv_lt_iff_lt_mul hy]
  have h : (u + 1) * B ≤ y * B := Int.mul_le_mul_of_nonneg_right (by omega) (by omega)
  rw [Int.add_mul, Int.one_mul, Int.mul_comm y B] at h
  omega
theorem kd_mul (hy : y = y1 * B + y0) (hq : u = q * y1 + r) : q * y = u * B - r * B + q * y0 := by
  subst hy; subst hq; grind
theorem kd_over (h0 : 0 < y) (hy : y = y1 * B + y0) (hq : u = q * y1 + r) (h : r * B + u1 < q * y0) : (u * B + u1) / y ≤ q - 1 := by
  have hm := kd_mul hy hq
  have : (u * B + u1) / y < q := by rw [Int.ediv_lt_iff_lt_mul h0]; omega
  omega
theorem kd_fit (h0 : 0 < y) (hy : y = y1 * B + y0) (hq : u = q * y1 + r) (h : q * y0 ≤ r * B + u1) : q ≤ (u * B + u1) / y := by
  have hm := kd_mul hy hq
  rw [Int.le_ediv_iff_mul_le h0]; omega
theorem kd_far (hB : 0 < B) (hy1 : 0 < y1) (hy0 : 0 ≤ y0) (hy0' : y0 < B) (hy : y = y1 * B + y0) (hu : u < y) (hu1 : 0 ≤ u1) (hq : u = q * y1 + r) (hr : B ≤ r) : q < B ∧ q * y0 ≤ r * B + u1 := by
  have h1 : q * y1 < B * y1 := by grind
  have h2 : q < B := by
    rcases Int.lt_or_le q B with h | h
    · exact h
    · exact absurd (Int.mul_le_mul_of_nonneg_right h (Int.le_of_lt hy1)) (by omega)
  refine ⟨h2, ?_⟩
  have h3 : q * y0 ≤ B * y0 := Int.mul_le_mul_of_nonneg_right (by omega) hy0
  have h4 : B * y0 ≤ B * B := Int.mul_le_mul_of_nonneg_left (by omega) (by omega)
  have h5 : B * B ≤ r * B := Int.mul_le_mul_of_nonneg_right hr (by omega)
  omega
end

section
variable {d n m : Int}
theorem dv_add (hd : 0 < d) (n m : Int) : (n + m) / d = n / d + m / d + (if d ≤ n % d + m % d then 1 else 0) ∧ (n + m) % d = n % d + m % d - (if d ≤ n % d + m % d then d else 0) := by
  rw [Int.ediv_emod_unique hd]
  have h1 := Int.mul_ediv_add_emod n d
  have h2 := Int.mul_ediv_add_emod m d
  have h3 := Int.emod_nonneg n (show d ≠ 0 by omega)
  have h4 := Int.emod_nonneg m (show d ≠ 0 by omega)
  have h5 := Int.emod_lt_of_pos n hd
  have h6 := Int.emod_lt_of_pos m hd
  split <;> refine ⟨?_, by omega, by omega⟩ <;> grind
end

/-- the state of the division bit by bit: p of a0 * b are divided already; a is what is left of a0 below 2 * bit -/
def DvAt (a0 b d : Int) (bit a q r : Int) : Prop :=
  ∃ p : Int, 0 ≤ p ∧ q = p * b / d ∧ r = p * b % d ∧ ((bit = 0 ∧ a0 = p) ∨ ∃ j : Nat, j ≤ 60 ∧ bit = 2 ^ j ∧ a0 = p * (2 * bit) + a ∧ 0 ≤ a ∧ a < 2 * bit)
theorem DvAt.start {a0 b d : Int} (h0 : 0 ≤ a0) (h1 : a0 ≤ 1152921504606846976) : DvAt a0 b d 1152921504606846976 a0 0 0 :=
  ⟨0, by omega, by simp, by simp, .inr ⟨60, by omega, by decide, by omega, h0, by omega⟩⟩
theorem DvAt.done {a0 b d a q r : Int} (h : DvAt a0 b d 0 a q r) : q = a0 * b / d ∧ r = a0 * b % d := by
  obtain ⟨p, _, hq, hr, ⟨_, rfl⟩ | ⟨j, _, hj, _⟩⟩ := h
  · exact ⟨hq, hr⟩
  · exact absurd hj (by have : (0 : Int) < 2 ^ j := Int.pow_pos (by omega); omega)
theorem DvAt.r {a0 b d bit a q r : Int} (hd : 0 < d) (h : DvAt a0 b d bit a q r) : 0 ≤ r ∧ r < d := by
  obtain ⟨p, _, hq, rfl, _⟩ := h
  exact ⟨Int.emod_nonneg _ (by omega), Int.emod_lt_of_pos _ hd⟩
theorem DvAt.big {a0 b d bit a q r M : Int} (hd : 0 < d) (hb : 0 ≤ b) (h : DvAt a0 b d bit a q r) (hM : M < q) : M < a0 * b / d := by
  obtain ⟨p, hp, rfl, _, hor⟩ := h
  have : p ≤ a0 := by
    rcases hor with ⟨_, rfl⟩ | ⟨j, _, hj, e, h0, _⟩
    · omega
    · have : (0 : Int) < 2 ^ j := Int.pow_pos (by omega)
      have : p * 1 ≤ p * (2 * bit) := Int.mul_le_mul_of_nonneg_left (by omega) hp
      omega
  have : p * b ≤ a0 * b := Int.mul_le_mul_of_nonneg_right this hb
  have := Int.ediv_le_ediv hd this
  omega
theorem half_pow (j : Nat) : (2 : Int) ^ (j + 1) / 2 = 2 ^ j := by rw [Int.pow_succ]; omega
/-- one round -/
theorem DvAt.step {a0 b d bit a q r : Int} (hd : 0 < d) (hbit : 0 < bit) (h : DvAt a0 b d bit a q r) :
    let q1 := 2 * q + (if d ≤ 2 * r then 1 else 0)
    let r1 := 2 * r - (if d ≤ 2 * r then d else 0)
    (a < bit → DvAt a0 b d (bit / 2) a q1 r1) ∧ (bit ≤ a → DvAt a0 b d (bit / 2) (a - bit) (q1 + b / d + (if d ≤ r1 + b % d then 1 else 0)) (r1 + b % d - (if d ≤ r1 + b % d then d else 0))) := by
  obtain ⟨p, hp, rfl, rfl, hor⟩ := h
  rcases hor with ⟨h0, _⟩ | ⟨j, hj, hbj, ha, ha0, ha1⟩
  · omega
  intro q1 r1
  obtain ⟨e1, e2⟩ := dv_add hd (p * b) (p * b)
  have f1 : (2 * p) * b / d = q1 := by rw [show 2 * p * b = p * b + p * b by grind, e1]; simp only [q1]; rw [show 2 * (p * b % d) = p * b % d + p * b % d by omega]; omega
  have f2 : (2 * p) * b % d = r1 := by rw [show 2 * p * b = p * b + p * b by grind, e2]; simp only [r1]; rw [show 2 * (p * b % d) = p * b % d + p * b % d by omega]
  have hnew : ∀ (p' a' : Int), a0 = p' * bit + a' → 0 ≤ a' → a' < bit → ((bit / 2 = 0 ∧ a0 = p') ∨ ∃ j : Nat, j ≤ 60 ∧ bit / 2 = 2 ^ j ∧ a0 = p' * (2 * (bit / 2)) + a' ∧ 0 ≤ a' ∧ a' < 2 * (bit / 2)) := by
    intro p' a' e h1 h2
    match j, hj, hbj with
    | 0, _, hbj => left; rw [hbj] at e h2 ⊢; simp at *; omega
    | j + 1, hj, hbj =>
      right
      have hp2 : (2 : Int) ^ (j + 1) = 2 * 2 ^ j := by rw [Int.pow_succ]; omega
      have hh : bit / 2 = 2 ^ j := by rw [hbj]; exact half_pow j
      refine ⟨j, by omega, hh, ?_, h1, ?_⟩
      · rw [hh, ← hp2, ← hbj]; exact e
      · rw [hh, ← hp2, ← hbj]; exact h2
  refine ⟨fun hlt => ⟨2 * p, by omega, f1.symm, f2.symm, hnew _ _ (by rw [ha]; grind) ha0 hlt⟩, fun hle => ⟨2 * p + 1, by omega, ?_, ?_, hnew _ _ (by rw [ha]; grind) (by omega) (by omega)⟩⟩
  · rw [show (2 * p + 1) * b = 2 * p * b + b by grind, (dv_add hd (2 * p * b) b).1, f1, f2]
  · rw [show (2 * p + 1) * b = 2 * p * b + b by grind, (dv_add hd (2 * p * b) b).2, f2]

/-- a/b against c/d -/
def cmpF (a b c d : Int) : Int := if a * d < c * b then -1 else if a * d = c * b then 0 else 1
theorem cmpF_gt {a b c d : Int} (hb : 0 < b) (hd : 0 < d) (h : c / d < a / b) : cmpF a b c d = 1 := by
  have h1 : c * b < a * d := by
    have e1 := Int.mul_ediv_add_emod a b
    have e2 := Int.mul_ediv_add_emod c d
    have m1 := Int.emod_nonneg a (show b ≠ 0 by omega)
    have m2 := Int.emod_lt_of_pos c hd
    have h2 : (c / d + 1) * (b * d) ≤ (a / b) * (b * d) := Int.mul_le_mul_of_nonneg_right (by omega) (Int.le_of_lt (Int.mul_pos hb hd))
    have h3 : c * b < (c / d + 1) * (b * d) := by
      have : c * b < (d * (c / d) + d) * b := Int.mul_lt_mul_of_pos_right (by omega) hb
      grind
    have h4 : (a / b) * (b * d) ≤ a * d := by
      have : (b * (a / b)) * d ≤ a * d := Int.mul_le_mul_of_nonneg_right (by omega) (by omega)
      grind
    omega
  unfold cmpF; rw [if_neg (by omega), if_neg (by omega)]
theorem cmpF_neg (a b c d : Int) : cmpF c d a b = - cmpF a b c d := by
  unfold cmpF
  by_cases h : a * d < c * b
  · rw [if_pos h, if_neg (by omega), if_neg (by omega)]; rfl
  · rw [if_neg h]
    by_cases h2 : a * d = c * b
    · rw [if_pos h2, if_neg (by omega), if_pos h2.symm]; rfl
    · rw [if_neg h2, if_pos (by omega)]
theorem cmpF_lt {a b c d : Int} (hb : 0 < b) (hd : 0 < d) (h : a / b < c / d) : cmpF a b c d = -1 := by
  rw [cmpF_neg, cmpF_gt hd hb h]
theorem cmpF_rests {a b c d : Int} (h : a / b = c / d) : a * d - c * b = (a % b) * d - (c % d) * b := by
  have e1 := Int.mul_ediv_add_emod a b
  have e2 := Int.mul_ediv_add_emod c d
  generalize a % b = p at *
  generalize c % d = q at *
  rw [h] at e1
  generalize c / d = k at *
  subst e1 e2
  grind
theorem cmpF_zero {a b c d : Int} (h : a / b = c / d) (hp : a % b = 0) (hq : c % d = 0) : cmpF a b c d = 0 := by
  have := cmpF_rests h
  rw [hp, hq] at this
  simp at this
  unfold cmpF; rw [if_neg (by omega), if_pos (by omega)]
theorem cmpF_pz {a b c d : Int} (hb : 0 < b) (h : a / b = c / d) (hp : a % b = 0) (hq : 0 < c % d) : cmpF a b c d = -1 := by
  have := cmpF_rests h
  rw [hp] at this
  simp at this
  have := Int.mul_pos hq hb
  unfold cmpF; rw [if_pos (by omega)]
theorem cmpF_qz {a b c d : Int} (hd : 0 < d) (h : a / b = c / d) (hp : 0 < a % b) (hq : c % d = 0) : cmpF a b c d = 1 := by
  rw [cmpF_neg, cmpF_pz hd h.symm hq hp]; rfl
theorem cmpF_next {a b c d : Int} (h : a / b = c / d) : cmpF a b c d = - cmpF b (a % b) d (c % d) := by
  have e := cmpF_rests h
  rw [← cmpF_neg]
  have e' : d * (a % b) - b * (c % d) = a * d - c * b := by rw [e, Int.mul_comm d, Int.mul_comm b]
  have l1 : (d * (a % b) < b * (c % d)) ↔ (a * d < c * b) := by omega
  have l2 : (d * (a % b) = b * (c % d)) ↔ (a * d = c * b) := by omega
  unfold cmpF
  simp only [l1, l2]
/-- two words each, the high ones first -/
theorem cmpF_words (x z : Int) :
    (if x / 18446744073709551616 < z / 18446744073709551616 then (-1 : Int) else if x / 18446744073709551616 = z / 18446744073709551616 then (if x % 18446744073709551616 < z % 18446744073709551616 then -1 else if x % 18446744073709551616 = z % 18446744073709551616 then 0 else 1) else 1) = (if x < z then -1 else if x = z then 0 else 1) := by
  split
  · rw [if_pos (by omega)]
  · split
    · split
      · rw [if_pos (by omega)]
      · split
        · rw [if_neg (by omega), if_pos (by omega)]
        · rw [if_neg (by omega), if_neg (by omega)]
    · rw [if_neg (by omega), if_neg (by omega)]
end Go.Proofs.Ytgbamgijpgjmgaa
/- Plain facts for Split: quotas, the order by rests, one more for the first ones. -/
namespace Go.Proofs.Ytgbamgijpgjmgaa

/-- i comes before j: its rest is greater, or equal and i is less -/
def prec (rs : List Int) (i j : Nat) : Bool := decide (rs.getD j 0 < rs.getD i 0) || (decide (rs.getD i 0 = rs.getD j 0) && decide (i < j))
theorem prec_iff {rs : List Int} {i j : Nat} : prec rs i j = true ↔ rs.getD j 0 < rs.getD i 0 ∨ (rs.getD i 0 = rs.getD j 0 ∧ i < j) := by simp [prec]
def ordL (rs : List Int) : List Nat := (List.range rs.length).mergeSort fun i j => !prec rs j i
theorem ordL_perm (rs : List Int) : (ordL rs).Perm (List.range rs.length) := List.mergeSort_perm _ _
theorem ordL_len (rs : List Int) : (ordL rs).length = rs.length := by rw [(ordL_perm rs).length_eq]; simp
theorem ordL_mem {rs : List Int} {i : Nat} : i ∈ ordL rs ↔ i < rs.length := by rw [(ordL_perm rs).mem_iff]; simp
theorem ordL_nodup (rs : List Int) : (ordL rs).Nodup := (ordL_perm rs).nodup_iff.2 List.nodup_range
theorem ordL_sorted (rs : List Int) : (ordL rs).Pairwise fun i j => prec rs j i = false := by
  have h := List.pairwise_mergeSort (le := fun i j => !prec rs j i) (fun a b c h1 h2 => by
      simp only [Bool.not_eq_true', Bool.eq_false_iff, ne_eq, prec_iff] at *; omega) (fun a b => by
      by_cases h : prec rs b a = true
      · have : ¬ prec rs a b = true := by rw [prec_iff] at *; omega
        simp [this]
      · simp [h]) (List.range rs.length)
  exact h.imp fun h => by simpa using h
theorem prec_total {rs : List Int} {i j : Nat} (h : i ≠ j) (hn : prec rs j i = false) : prec rs i j = true := by
  rw [prec_iff]
  have : ¬ prec rs j i = true := by simp [hn]
  rw [prec_iff] at this
  omega
theorem ordL_prec (rs : List Int) : (ordL rs).Pairwise fun i j => prec rs i j = true := by
  have h1 := ordL_sorted rs
  have h2 : (ordL rs).Pairwise fun i j => i ≠ j := ordL_nodup rs
  exact (h1.and h2).imp fun ⟨a, b⟩ => prec_total b a

/-- one more for each of the places -/
def bump (l : List Int) : List Nat → List Int
  | [] => l
  | i :: is => bump (l.set i (l.getD i 0 + 1)) is
theorem bump_len (l : List Int) (is : List Nat) : (bump l is).length = l.length := by
  induction is generalizing l with
  | nil => rfl
  | cons i is ih => rw [bump, ih]; simp
theorem bump_snoc (l : List Int) (is : List Nat) (i : Nat) : bump l (is ++ [i]) = (bump l is).set i ((bump l is).getD i 0 + 1) := by
  induction is generalizing l with
  | nil => rfl
  | cons j is ih => simp only [List.cons_append, bump]; rw [ih]
theorem bump_get (l : List Int) (is : List Nat) (h : is.Nodup) (j : Nat) (hj : j < l.length) : (bump l is).getD j 0 = l.getD j 0 + (if j ∈ is then 1 else 0) := by
  induction is generalizing l with
  | nil => simp [bump]
  | cons i is ih =>
    have hn := List.nodup_cons.1 h
    rw [bump, ih _ hn.2 (by simpa using hj)]
    simp only [List.getD_eq_getElem?_getD, List.getElem?_set, List.mem_cons]
    by_cases e : i = j
    · subst e
      rw [if_pos rfl, if_pos hj, if_neg hn.1, if_pos (.inl rfl)]
      simp
    · rw [if_neg e]
      by_cases hm : j ∈ is
      · simp [hm]
      · have : ¬ (j = i ∨ j ∈ is) := by rintro (h | h); exact e h.symm; exact hm h
        rw [if_neg hm, if_neg this]
def sumL (l : List Int) : Int := l.sum
def quos (t S : Int) (ws : List Int) : List Int := ws.map fun x => t * x / S
def rems (t S : Int) (ws : List Int) : List Int := ws.map fun x => t * x % S
def leftS (t S : Int) (ws : List Int) : Nat := (t - (quos t S ws).sum).toNat
def splitOk (t : Int) (ws : List Int) : Bool := okU t && (ws.all okU && (decide (0 < ws.sum) && decide (ws.sum ≤ 1152921504606846976)))
def splitL (t : Int) (ws : List Int) : List Int := bump (quos t ws.sum ws) ((ordL (rems t ws.sum ws)).take (leftS t ws.sum ws))
def splitS (t : Int) (ws : List Int) : List Int × Int := if splitOk t ws then (splitL t ws, 0) else ([], 1)

theorem sum_nonneg {l : List Int} (h : ∀ x ∈ l, 0 ≤ x) : 0 ≤ l.sum := by
  induction l with
  | nil => simp
  | cons a l ih => rw [List.sum_cons]; have := ih fun x hx => h x (by simp [hx]); have := h a (by simp); omega
theorem le_sum {l : List Int} (h : ∀ x ∈ l, 0 ≤ x) {x : Int} (hx : x ∈ l) : x ≤ l.sum := by
  induction l with
  | nil => simp at hx
  | cons a l ih =>
    rw [List.sum_cons]
    have h0 := sum_nonneg (l := l) fun x hx => h x (by simp [hx])
    have ha := h a (by simp)
    rcases List.mem_cons.1 hx with rfl | hx
    · omega
    · have := ih (fun x hx => h x (by simp [hx])) hx; omega
theorem sum_take_le {l : List Int} (h : ∀ x ∈ l, 0 ≤ x) (k : Nat) : (l.take k).sum ≤ l.sum := by
  have := List.take_append_drop k l
  have h2 : l.sum = (l.take k).sum + (l.drop k).sum := by rw [← List.sum_append, this]
  have := sum_nonneg (l := l.drop k) fun x hx => h x (List.mem_of_mem_drop hx)
  omega
/-- the quotas and the rests make up the total -/
theorem quos_rems (t S : Int) (ws : List Int) : S * (quos t S ws).sum + (rems t S ws).sum = t * ws.sum := by
  induction ws with
  | nil => simp [quos, rems]
  | cons a l ih =>
    simp only [quos, rems, List.map_cons, List.sum_cons] at *
    have := Int.mul_ediv_add_emod (t * a) S
    grind
theorem rems_nonneg {t S : Int} (hS : 0 < S) {ws : List Int} : ∀ x ∈ rems t S ws, 0 ≤ x ∧ x < S := by
  intro x hx
  simp only [rems, List.mem_map] at hx
  obtain ⟨y, _, rfl⟩ := hx
  exact ⟨Int.emod_nonneg _ (by omega), Int.emod_lt_of_pos _ hS⟩
theorem quos_nonneg {t S : Int} (ht : 0 ≤ t) (hS : 0 < S) {ws : List Int} (hw : ∀ x ∈ ws, 0 ≤ x) : ∀ x ∈ quos t S ws, 0 ≤ x := by
  intro x hx
  simp only [quos, List.mem_map] at hx
  obtain ⟨y, hy, rfl⟩ := hx
  exact Int.ediv_nonneg (Int.mul_nonneg ht (hw y hy)) (by omega)
/-- the sum of numbers below S, of which c are not 0, is at most c * (S - 1) -/
theorem sum_le_count {S : Int} (hS : 0 < S) : ∀ (l : List Int), (∀ x ∈ l, 0 ≤ x ∧ x < S) → l.sum ≤ (l.countP fun x => decide (0 < x) : Nat) * (S - 1)
  | [], _ => by simp
  | a :: l, h => by
    have ih := sum_le_count hS l fun x hx => h x (by simp [hx])
    have ha := h a (by simp)
    rw [List.sum_cons, List.countP_cons]
    by_cases h0 : 0 < a
    · simp only [h0, decide_true, if_true]
      rw [Int.natCast_add, Int.add_mul]; omega
    · simp only [h0, decide_false, Bool.false_eq_true, if_false, Nat.add_zero]; omega
theorem left_facts {t : Int} {ws : List Int} (hS : 0 < ws.sum) :
    0 ≤ t - (quos t ws.sum ws).sum ∧ leftS t ws.sum ws ≤ (rems t ws.sum ws).countP fun x => decide (0 < x) := by
  have h1 := quos_rems t ws.sum ws
  have h2 := rems_nonneg (t := t) hS (ws := ws)
  have h3 := sum_nonneg fun x hx => (h2 x hx).1
  have h4 := sum_le_count hS _ h2
  generalize hq : (quos t ws.sum ws).sum = q at *
  generalize hr : (rems t ws.sum ws).sum = r at *
  generalize (rems t ws.sum ws).countP (fun x => decide (0 < x)) = c at *
  unfold leftS
  rw [hq]
  generalize ws.sum = S at *
  have e : S * (t - q) = r := by grind
  have hge : 0 ≤ t - q := by
    rcases Int.lt_or_le (t - q) 0 with h | h
    · have := Int.mul_neg_of_pos_of_neg hS h; omega
    · exact h
  refine ⟨hge, ?_⟩
  have hle : t - q ≤ c := by
    rcases Int.lt_or_le (c : Int) (t - q) with h | h
    · have a1 : S * ((c : Int) + 1) ≤ S * (t - q) := Int.mul_le_mul_of_nonneg_left (by omega) (by omega)
      have a2 : S * ((c : Int) + 1) = c * (S - 1) + c + S := by grind
      omega
    · exact h
  omega
theorem left_le {t : Int} {ws : List Int} (hS : 0 < ws.sum) : leftS t ws.sum ws ≤ ws.length := by
  have := (left_facts (t := t) hS).2
  have := List.countP_le_length (p := fun x : Int => decide (0 < x)) (l := rems t ws.sum ws)
  simp only [rems, List.length_map] at *
  omega
/-- the rests that get one more are not 0 -/
theorem first_pos {rs : List Int} {m : Nat} (hm : m ≤ rs.countP fun x => decide (0 < x)) {i : Nat} (hi : i ∈ (ordL rs).take m) : 0 < rs.getD i 0 := by
  rcases Int.lt_or_le 0 (rs.getD i 0) with h | h
  · exact h
  exfalso
  have hil : i < rs.length := ordL_mem.1 (List.mem_of_mem_take hi)
  -- every place with a positive rest comes before i
  obtain ⟨k, hk, hki⟩ := List.getElem_of_mem hi
  have hkm : k < m := by rw [List.length_take] at hk; omega
  have hkl : k < (ordL rs).length := by rw [List.length_take] at hk; omega
  rw [List.getElem_take] at hki
  have hsp : (ordL rs).countP (fun j => decide (0 < rs.getD j 0)) = rs.countP fun x => decide (0 < x) := by
    rw [(ordL_perm rs).countP_eq]
    have : rs = (List.range rs.length).map fun j => rs.getD j 0 := by
      apply List.ext_getElem?
      intro j
      by_cases hj : j < rs.length
      · simp [hj]
      · simp [hj]
    conv => rhs; rw [this, List.countP_map]
    rfl
  have hcut : (ordL rs).countP (fun j => decide (0 < rs.getD j 0)) ≤ k := by
    rw [← List.take_append_drop k (ordL rs), List.countP_append]
    have hz : ((ordL rs).drop k).countP (fun j => decide (0 < rs.getD j 0)) = 0 := by
      rw [List.countP_eq_zero]
      intro j hj
      rw [List.drop_eq_getElem_cons hkl, List.mem_cons] at hj
      simp only [decide_eq_true_eq, Int.not_lt]
      rcases hj with rfl | hj
      · rw [hki]; exact h
      · have hp : prec rs ((ordL rs)[k]) j = true := by
          have h1 := ordL_prec rs
          rw [← List.take_append_drop k (ordL rs), List.pairwise_append] at h1
          have h2 := h1.2.1
          rw [List.drop_eq_getElem_cons hkl, List.pairwise_cons] at h2
          exact h2.1 j hj
        rw [hki, prec_iff] at hp
        omega
    have := List.countP_le_length (p := fun j => decide (0 < rs.getD j 0)) (l := (ordL rs).take k)
    rw [List.length_take] at this
    omega
  omega
end Go.Proofs.Ytgbamgijpgjmgaa
/- Plain facts for Split: the greatest rest, sums, multiples, the best choice. -/
namespace Go.Proofs.Ytgbamgijpgjmgaa

/-- -1 at each of the places -/
def mark (l : List Int) : List Nat → List Int
  | [] => l
  | i :: is => mark (l.set i (-1)) is
theorem mark_len (l : List Int) (is : List Nat) : (mark l is).length = l.length := by
  induction is generalizing l with
  | nil => rfl
  | cons i is ih => rw [mark, ih]; simp
theorem mark_snoc (l : List Int) (is : List Nat) (i : Nat) : mark l (is ++ [i]) = (mark l is).set i (-1) := by
  induction is generalizing l with
  | nil => rfl
  | cons j is ih => simp only [List.cons_append, mark]; rw [ih]
theorem mark_in {l : List Int} {is : List Nat} {j : Nat} (hj : j < l.length) (h : j ∈ is ∨ l.getD j 0 = -1) : (mark l is).getD j 0 = -1 := by
  induction is generalizing l with
  | nil => rcases h with h | h; · cases h
           exact h
  | cons i is ih =>
    rw [mark]
    refine ih (by simpa using hj) ?_
    by_cases e : j = i
    · right; subst e; simp [List.getD_eq_getElem?_getD, hj]
    · rcases h with h | h
      · rcases List.mem_cons.1 h with h | h
        · exact absurd h e
        · exact .inl h
      · right
        rw [List.getD_eq_getElem?_getD, List.getElem?_set, if_neg (fun x => e x.symm), ← List.getD_eq_getElem?_getD]; exact h
theorem mark_out {l : List Int} {is : List Nat} {j : Nat} (h : ¬ j ∈ is) : (mark l is).getD j 0 = l.getD j 0 := by
  induction is generalizing l with
  | nil => rfl
  | cons i is ih =>
    rw [List.mem_cons] at h
    rw [mark, ih fun x => h (.inr x)]
    rw [List.getD_eq_getElem?_getD, List.getElem?_set, if_neg (fun x => h (.inl x.symm)), ← List.getD_eq_getElem?_getD]

/-- the first of the greatest among the first n -/
def FirstMax (l : List Int) (n a : Nat) : Prop := a < n ∧ (∀ j, j < n → l.getD j 0 ≤ l.getD a 0) ∧ ∀ j, j < a → l.getD j 0 < l.getD a 0
theorem FirstMax.start (l : List Int) : FirstMax l 1 0 := ⟨by omega, fun j hj => by rw [show j = 0 by omega]; omega, fun j hj => by omega⟩
theorem FirstMax.more {l : List Int} {n a : Nat} (h : FirstMax l n a) (hl : l.getD a 0 < l.getD n 0) : FirstMax l (n + 1) n := by
  refine ⟨by omega, fun j hj => ?_, fun j hj => ?_⟩
  · by_cases e : j = n
    · subst e; omega
    · have := h.2.1 j (by omega); omega
  · have := h.2.1 j hj; omega
theorem FirstMax.keep {l : List Int} {n a : Nat} (h : FirstMax l n a) (hl : ¬ l.getD a 0 < l.getD n 0) : FirstMax l (n + 1) a := by
  refine ⟨by have := h.1; omega, fun j hj => ?_, h.2.2⟩
  by_cases e : j = n
  · subst e; omega
  · exact h.2.1 j (by omega)
theorem ord_first {rs : List Int} (h0 : ∀ x ∈ rs, 0 ≤ x) {k a : Nat} (hk : k < rs.length) (h : FirstMax (mark rs ((ordL rs).take k)) rs.length a) : (ordL rs)[k]? = some a := by
  have hkl : k < (ordL rs).length := by rw [ordL_len]; exact hk
  rw [List.getElem?_eq_getElem hkl]
  have hpw := ordL_prec rs
  have hnd := ordL_nodup rs
  have hml : (ordL rs)[k] < rs.length := ordL_mem.1 (List.getElem_mem hkl)
  have hsp : ordL rs = (ordL rs).take k ++ (ordL rs)[k] :: (ordL rs).drop (k + 1) := by rw [← List.drop_eq_getElem_cons hkl, List.take_append_drop]
  generalize hm : (ordL rs)[k] = m at *
  generalize hT : (ordL rs).take k = T at *
  generalize hD : (ordL rs).drop (k + 1) = D at *
  rw [hsp] at hpw hnd
  have hmT : ¬ m ∈ T := fun hx => (List.nodup_append.1 hnd).2.2 m hx m (by simp) rfl
  have hall : ∀ j, j < rs.length → j ∈ T ∨ j = m ∨ j ∈ D := fun j hj => by
    have := ordL_mem.2 hj
    rw [hsp] at this
    simpa using this
  have hg0 : 0 ≤ rs.getD m 0 := by
    rw [List.getD_eq_getElem?_getD, List.getElem?_eq_getElem hml]; exact h0 _ (List.getElem_mem hml)
  have e1 := mark_out (l := rs) hmT
  congr 1
  apply Classical.byContradiction
  intro hne
  have g1 := h.2.1 m hml
  have g2 := h.2.2 m
  rcases hall a h.1 with ha | ha | ha
  · have e2 := mark_in (l := rs) h.1 (.inl ha)
    omega
  · exact hne ha.symm
  · have hp : prec rs m a = true := (List.pairwise_cons.1 (List.pairwise_append.1 hpw).2.1).1 a ha
    have haT : ¬ a ∈ T := fun hx => (List.nodup_append.1 hnd).2.2 a hx a (by simp [ha]) rfl
    have e2 := mark_out (l := rs) haT
    rw [prec_iff] at hp
    omega
theorem bump_sum (l : List Int) : ∀ (is : List Nat), (∀ i ∈ is, i < l.length) → (bump l is).sum = l.sum + is.length := by
  intro is
  induction is generalizing l with
  | nil => intro _; simp [bump]
  | cons i is ih =>
    intro h
    rw [bump, ih _ (fun j hj => by have := h j (by simp [hj]); simpa using this)]
    have hi := h i (by simp)
    have key : ∀ (l : List Int) (i : Nat), i < l.length → (l.set i (l.getD i 0 + 1)).sum = l.sum + 1 := by
      intro l
      induction l with
      | nil => intro i h; simp at h
      | cons a l ih =>
        intro i h
        cases i with
        | zero => simp; omega
        | succ i => simp only [List.set_cons_succ, List.sum_cons, List.getD_cons_succ]; rw [ih i (by simpa using h)]; omega
    rw [key l i hi]
    simp; omega
theorem quos_len (t S : Int) (ws : List Int) : (quos t S ws).length = ws.length := by simp [quos]
theorem rems_len (t S : Int) (ws : List Int) : (rems t S ws).length = ws.length := by simp [rems]
theorem splitL_len (t : Int) (ws : List Int) : (splitL t ws).length = ws.length := by rw [splitL, bump_len, quos_len]
theorem okU_all {l : List Int} (h : l.all okU = true) {x : Int} (hx : x ∈ l) : 0 ≤ x ∧ x ≤ 1099511627776 := okU_iff.1 (List.all_eq_true.1 h x hx)
structure SplitPre (t : Int) (ws : List Int) : Prop where
  t0 : 0 ≤ t
  t1 : t ≤ 1099511627776
  w0 : ∀ x ∈ ws, 0 ≤ x ∧ x ≤ 1099511627776
  s0 : 0 < ws.sum
  s1 : ws.sum ≤ 1152921504606846976
theorem splitPre_of {t : Int} {ws : List Int} (h : splitOk t ws = true) : SplitPre t ws := by
  simp only [splitOk, Bool.and_eq_true, decide_eq_true_eq] at h
  obtain ⟨h1, h2, h3, h4⟩ := h
  exact ⟨(okU_iff.1 h1).1, (okU_iff.1 h1).2, fun x hx => okU_all h2 hx, h3, h4⟩
theorem splitOk_of {t : Int} {ws : List Int} (h : SplitPre t ws) : splitOk t ws = true := by
  simp only [splitOk, Bool.and_eq_true, decide_eq_true_eq, List.all_eq_true]
  exact ⟨okU_iff.2 ⟨h.t0, h.t1⟩, fun x hx => okU_iff.2 (h.w0 x hx), h.s0, h.s1⟩
theorem splitL_sum {t : Int} {ws : List Int} (h : SplitPre t ws) : (splitL t ws).sum = t := by
  have hl := left_le (t := t) h.s0
  have hf := (left_facts (t := t) h.s0).1
  rw [splitL, bump_sum _ _ (fun i hi => by
    have := ordL_mem.1 (List.mem_of_mem_take hi)
    rw [rems_len] at this; rw [quos_len]; exact this)]
  rw [List.length_take, ordL_len, rems_len, Nat.min_eq_left hl]
  unfold leftS; omega
/-- the part at a place: its quota, and one more where it is among the first -/
theorem splitL_get {t : Int} {ws : List Int} {i : Nat} (hi : i < ws.length) :
    (splitL t ws).getD i 0 = t * ws.getD i 0 / ws.sum + (if i ∈ (ordL (rems t ws.sum ws)).take (leftS t ws.sum ws) then 1 else 0) := by
  rw [splitL, bump_get _ _ ((ordL_nodup _).sublist (List.take_sublist _ _)) _ (by rw [quos_len]; exact hi)]
  congr 1
  simp [quos, List.getD_eq_getElem?_getD, List.getElem?_eq_getElem hi]
theorem rems_get {t S : Int} {ws : List Int} {i : Nat} (hi : i < ws.length) : (rems t S ws).getD i 0 = t * ws.getD i 0 % S := by
  simp [rems, List.getD_eq_getElem?_getD, List.getElem?_eq_getElem hi]
/-- a place that gets one more has a rest -/
theorem chosen_pos {t : Int} {ws : List Int} (hS : 0 < ws.sum) {i : Nat} (hi : i ∈ (ordL (rems t ws.sum ws)).take (leftS t ws.sum ws)) : 0 < t * ws.getD i 0 % ws.sum := by
  have := first_pos (left_facts (t := t) hS).2 hi
  have hl := ordL_mem.1 (List.mem_of_mem_take hi)
  rw [rems_len] at hl
  rwa [rems_get hl] at this
/-- a place that gets one more has no less rest than one that does not -/
theorem chosen_more {rs : List Int} {m i j : Nat} (hi : i ∈ (ordL rs).take m) (hj : j < rs.length) (hn : ¬ j ∈ (ordL rs).take m) : prec rs i j = true := by
  have hp := ordL_prec rs
  rw [← List.take_append_drop m (ordL rs), List.pairwise_append] at hp
  refine hp.2.2 i hi j ?_
  have := ordL_mem.2 hj
  rw [← List.take_append_drop m (ordL rs), List.mem_append] at this
  exact this.resolve_left hn
theorem part_le {t x S : Int} (ht : 0 ≤ t) (hx : x ≤ S) (hS : 0 < S) : t * x / S ≤ t := by
  have h1 : t * x ≤ t * S := Int.mul_le_mul_of_nonneg_left hx ht
  have := Int.ediv_le_ediv hS h1
  rwa [Int.mul_ediv_cancel _ (by omega)] at this
/-- below the quota rounded up -/
theorem splitL_quota {t : Int} {ws : List Int} (h : SplitPre t ws) {i : Nat} (hi : i < ws.length) :
    t * ws.getD i 0 / ws.sum ≤ (splitL t ws).getD i 0 ∧ (splitL t ws).getD i 0 ≤ t * ws.getD i 0 / ws.sum + (if 0 < t * ws.getD i 0 % ws.sum then 1 else 0) := by
  rw [splitL_get hi]
  by_cases hc : i ∈ (ordL (rems t ws.sum ws)).take (leftS t ws.sum ws)
  · have := chosen_pos h.s0 hc
    rw [if_pos hc, if_pos this]; omega
  · rw [if_neg hc]; split <;> omega
theorem getD_mem {l : List Int} {i : Nat} (hi : i < l.length) : l.getD i 0 ∈ l := by
  rw [List.getD_eq_getElem?_getD, List.getElem?_eq_getElem hi]; exact List.getElem_mem hi
theorem ceil_le {t x S : Int} (ht : 0 ≤ t) (hx : x ≤ S) (hS : 0 < S) (hr : 0 < t * x % S) : t * x / S + 1 ≤ t := by
  have h1 : t * x ≤ t * S := Int.mul_le_mul_of_nonneg_left hx ht
  have h2 := Int.mul_ediv_add_emod (t * x) S
  have : t * x / S < t := by
    rcases Int.lt_or_le (t * x / S) t with h | h
    · exact h
    · have := Int.mul_le_mul_of_nonneg_left h (show 0 ≤ S by omega)
      rw [Int.mul_comm S t] at this; omega
  omega
theorem splitL_range {t : Int} {ws : List Int} (h : SplitPre t ws) : ∀ x ∈ splitL t ws, 0 ≤ x ∧ x ≤ t := by
  intro x hx
  obtain ⟨i, hi, rfl⟩ := List.getElem_of_mem hx
  rw [splitL_len] at hi
  have hg : (splitL t ws)[i] = (splitL t ws).getD i 0 := by rw [List.getD_eq_getElem?_getD, List.getElem?_eq_getElem (by rw [splitL_len]; exact hi)]; rfl
  rw [hg]
  have hq := splitL_quota h hi
  have hm := getD_mem hi
  have hw := h.w0 _ hm
  have hs := le_sum (fun x hx => (h.w0 x hx).1) hm
  have h0 := Int.ediv_nonneg (Int.mul_nonneg h.t0 hw.1) (Int.le_of_lt h.s0)
  refine ⟨by omega, ?_⟩
  by_cases hr : 0 < t * ws.getD i 0 % ws.sum
  · rw [if_pos hr] at hq
    have := ceil_le h.t0 hs h.s0 hr
    omega
  · rw [if_neg hr] at hq
    have := part_le h.t0 hs h.s0
    omega

/-- multiples of the weights -/
theorem sum_mul (k : Int) (ws : List Int) : (ws.map (k * ·)).sum = k * ws.sum := by
  induction ws with
  | nil => simp
  | cons a l ih => simp only [List.map_cons, List.sum_cons, ih]; grind
theorem splitL_scale {t k : Int} {ws : List Int} (hk : 0 < k) : splitL t (ws.map (k * ·)) = splitL t ws := by
  have hs := sum_mul k ws
  have hq : quos t (k * ws.sum) (ws.map (k * ·)) = quos t ws.sum ws := by
    simp only [quos, List.map_map]
    refine List.map_congr_left fun x _ => ?_
    show t * (k * x) / (k * ws.sum) = _
    rw [show t * (k * x) = k * (t * x) by grind, Int.mul_ediv_mul_of_pos _ _ hk]
  have hr : rems t (k * ws.sum) (ws.map (k * ·)) = (rems t ws.sum ws).map (k * ·) := by
    simp only [rems, List.map_map]
    refine List.map_congr_left fun x _ => ?_
    show t * (k * x) % (k * ws.sum) = k * _
    rw [show t * (k * x) = k * (t * x) by grind, Int.mul_emod_mul_of_pos _ _ hk]
  have ho : ∀ rs : List Int, ordL (rs.map (k * ·)) = ordL rs := by
    intro rs
    have hp : ∀ i j, prec (rs.map (k * ·)) i j = prec rs i j := by
      intro i j
      have hg : ∀ i, (rs.map (k * ·)).getD i 0 = k * rs.getD i 0 := by
        intro i
        simp only [List.getD_eq_getElem?_getD, List.getElem?_map]
        cases rs[i]? <;> simp
      rw [Bool.eq_iff_iff, prec_iff, prec_iff, hg, hg]
      generalize rs.getD i 0 = a
      generalize rs.getD j 0 = b
      have e1 : k * b < k * a ↔ b < a := Int.mul_lt_mul_left hk
      have e2 : k * a = k * b ↔ a = b := ⟨fun h => Int.eq_of_mul_eq_mul_left (by omega) h, fun h => by rw [h]⟩
      rw [e1, e2]
    simp only [ordL, List.length_map, hp]
  have hl : leftS t (k * ws.sum) (ws.map (k * ·)) = leftS t ws.sum ws := by unfold leftS; rw [hq]
  unfold splitL
  rw [hs, hq, hr, ho, hl]
/-- a greater weight does not get less -/
theorem splitL_mono {t : Int} {ws : List Int} (h : SplitPre t ws) {i j : Nat} (hi : i < ws.length) (hj : j < ws.length) (hw : ws.getD j 0 < ws.getD i 0) : (splitL t ws).getD j 0 ≤ (splitL t ws).getD i 0 := by
  rw [splitL_get hi, splitL_get hj]
  have h1 : t * ws.getD j 0 ≤ t * ws.getD i 0 := Int.mul_le_mul_of_nonneg_left (by omega) h.t0
  have h2 := Int.ediv_le_ediv h.s0 h1
  by_cases hc : j ∈ (ordL (rems t ws.sum ws)).take (leftS t ws.sum ws)
  · by_cases hd : i ∈ (ordL (rems t ws.sum ws)).take (leftS t ws.sum ws)
    · rw [if_pos hc, if_pos hd]; omega
    · rw [if_pos hc, if_neg hd]
      have hp := chosen_more hc (by rw [rems_len]; exact hi) hd
      have hpos := chosen_pos h.s0 hc
      rw [prec_iff, rems_get hi, rems_get hj] at hp
      have e1 := Int.mul_ediv_add_emod (t * ws.getD i 0) ws.sum
      have e2 := Int.mul_ediv_add_emod (t * ws.getD j 0) ws.sum
      have ht : 0 < t := by
        rcases Int.lt_or_le 0 t with h' | h'
        · exact h'
        · have : t = 0 := by have := h.t0; omega
          rw [this] at hpos; simp at hpos
      have h3 : t * ws.getD j 0 < t * ws.getD i 0 := Int.mul_lt_mul_of_pos_left hw ht
      have : t * ws.getD j 0 / ws.sum ≠ t * ws.getD i 0 / ws.sum := by
        intro e
        rw [e] at e2
        omega
      omega
  · rw [if_neg hc]
    split <;> omega
def farB (a b : Int) : Int := if a < b then b - a else a - b
/-- moving one does not bring both nearer -/
theorem splitL_best {t : Int} {ws : List Int} (h : SplitPre t ws) {i j : Nat} (hi : i < ws.length) (hj : j < ws.length) :
    ¬ farB (((splitL t ws).getD i 0 - 1) * ws.sum) (t * ws.getD i 0) + farB (((splitL t ws).getD j 0 + 1) * ws.sum) (t * ws.getD j 0) < farB ((splitL t ws).getD i 0 * ws.sum) (t * ws.getD i 0) + farB ((splitL t ws).getD j 0 * ws.sum) (t * ws.getD j 0) := by
  rw [splitL_get hi, splitL_get hj]
  have e1 := Int.mul_ediv_add_emod (t * ws.getD i 0) ws.sum
  have e2 := Int.mul_ediv_add_emod (t * ws.getD j 0) ws.sum
  have m1 := Int.emod_nonneg (t * ws.getD i 0) (show ws.sum ≠ 0 by have := h.s0; omega)
  have m2 := Int.emod_nonneg (t * ws.getD j 0) (show ws.sum ≠ 0 by have := h.s0; omega)
  have n1 := Int.emod_lt_of_pos (t * ws.getD i 0) h.s0
  have n2 := Int.emod_lt_of_pos (t * ws.getD j 0) h.s0
  have hmore := fun hc hd => chosen_more (rs := rems t ws.sum ws) (m := leftS t ws.sum ws) (i := i) (j := j) hc (by rw [rems_len]; exact hj) hd
  have hgi := rems_get (t := t) (S := ws.sum) hi
  have hgj := rems_get (t := t) (S := ws.sum) hj
  simp only [prec_iff, hgi, hgj] at hmore
  generalize t * ws.getD i 0 = a at *
  generalize t * ws.getD j 0 = b at *
  generalize ws.sum = S at *
  generalize a / S = qa at *
  generalize b / S = qb at *
  generalize a % S = ra at *
  generalize b % S = rb at *
  have x1 : ∀ c : Int, (qa + c - 1) * S = S * qa + c * S - S := by intro c; grind
  have x2 : ∀ c : Int, (qb + c + 1) * S = S * qb + c * S + S := by intro c; grind
  have x3 : ∀ c : Int, (qa + c) * S = S * qa + c * S := by intro c; grind
  have x4 : ∀ c : Int, (qb + c) * S = S * qb + c * S := by intro c; grind
  rw [x1, x2, x3, x4]
  unfold farB
  by_cases hc : i ∈ (ordL (rems t S ws)).take (leftS t S ws)
  · by_cases hd : j ∈ (ordL (rems t S ws)).take (leftS t S ws)
    · rw [if_pos hc, if_pos hd, Int.one_mul]; split <;> split <;> split <;> split <;> omega
    · have hm := hmore hc hd
      rw [if_pos hc, if_neg hd, Int.one_mul, Int.zero_mul]; split <;> split <;> split <;> split <;> omega
  · by_cases hd : j ∈ (ordL (rems t S ws)).take (leftS t S ws)
    · rw [if_neg hc, if_pos hd, Int.one_mul, Int.zero_mul]; split <;> split <;> split <;> split <;> omega
    · rw [if_neg hc, if_neg hd, Int.zero_mul]; split <;> split <;> split <;> split <;> omega
/-- what was split is split in the same way again -/
theorem splitL_again {t : Int} {xs : List Int} (h0 : 0 < t) (hs : xs.sum = t) : splitL t xs = xs := by
  have hq : quos t xs.sum xs = xs := by
    rw [quos, hs]
    conv => rhs; rw [← List.map_id xs]
    refine List.map_congr_left fun x _ => ?_
    rw [Int.mul_ediv_cancel_left _ (by omega)]; rfl
  have hl : leftS t xs.sum xs = 0 := by unfold leftS; rw [hq, hs]; simp
  rw [splitL, hl, hq]; rfl
end Go.Proofs.Ytgbamgijpgjmgaa
/- Contracts of package share's tests, of the reference's, Around, Same, Sum. -/
namespace Go.Proofs.Ytgbamgijpgjmgaa
open Go.RowKit

def okL (x : Int) : Bool := decide (0 ≤ x) && decide (x ≤ 1152921504606846976)
theorem okL_iff {x : Int} : okL x = true ↔ 0 ≤ x ∧ x ≤ 1152921504606846976 := by simp [okL]

set_option maxHeartbeats 400000 in
theorem isAmount_c (x : Int) (w : World) : Calls Try.prog 75 #[.int .i64 x] w fun e w' => e = .returned (.bool (okU x)) ∧ w = w' := by
  by_cases h : 0 ≤ x
  · have hd : decide (0 ≤ x) = true := by simpa using h
    have HF := Lib.hid (show okU x = decide (x ≤ 1099511627776) by simp [okU, h])
    go_enter Try.func75, Try.ntmps75
    go_wp2
    go_ret
    exact ⟨ret_bool HF.out.symm, rfl⟩
  · have hd : decide (0 ≤ x) = false := by simpa using h
    have HF := Lib.hid (show okU x = false by simp [okU, h])
    go_enter Try.func75, Try.ntmps75
    go_wp2
    go_ret
    exact ⟨ret_bool HF.out.symm, rfl⟩
set_option maxHeartbeats 400000 in
theorem isLarge_c (x : Int) (w : World) : Calls Try.prog 88 #[.int .i64 x] w fun e w' => e = .returned (.bool (okL x)) ∧ w = w' := by
  by_cases h : 0 ≤ x
  · have hd : decide (0 ≤ x) = true := by simpa using h
    have HF := Lib.hid (show okL x = decide (x ≤ 1152921504606846976) by simp [okL, h])
    go_enter Try.func88, Try.ntmps88
    go_wp2
    go_ret
    exact ⟨ret_bool HF.out.symm, rfl⟩
  · have hd : decide (0 ≤ x) = false := by simpa using h
    have HF := Lib.hid (show okL x = false by simp [okL, h])
    go_enter Try.func88, Try.ntmps88
    go_wp2
    go_ret
    exact ⟨ret_bool HF.out.symm, rfl⟩
set_option maxHeartbeats 400000 in
theorem refAmount_c (x : Int) (w : World) : Calls Try.prog 101 #[.int .i64 x] w fun e w' => e = .returned (.bool (okU x)) ∧ w = w' := by
  by_cases h : 0 ≤ x
  · have hd : decide (0 ≤ x) = true := by simpa using h
    have HF := Lib.hid (show okU x = decide (x ≤ 1099511627776) by simp [okU, h])
    go_enter Try.func101, Try.ntmps101
    go_wp2
    go_ret
    exact ⟨ret_bool HF.out.symm, rfl⟩
  · have hd : decide (0 ≤ x) = false := by simpa using h
    have HF := Lib.hid (show okU x = false by simp [okU, h])
    go_enter Try.func101, Try.ntmps101
    go_wp2
    go_ret
    exact ⟨ret_bool HF.out.symm, rfl⟩
set_option maxHeartbeats 400000 in
theorem aroundR (a m : Int) (w : World) (h1 : -9223372036854775808 ≤ a) (h2 : a ≤ 9223372036854775807) (hm : 0 < m) (hm2 : m ≤ 9223372036854775807) :
    Calls Try.prog 14 #[.int .i64 a, .int .i64 m] w fun e w' => e = .returned (.int .i64 (a % m)) ∧ w = w' := by
  have hz : (m == 0) = false := by simp; omega
  have hz1 : (m == -1) = false := by simp; omega
  have ht : -m < a.tmod m ∧ a.tmod m < m := ⟨Int.lt_tmod_of_pos a hm, Int.tmod_lt_of_pos a hm⟩
  obtain ⟨t1, t2⟩ := ht
  by_cases h : a.tmod m < 0
  · have HF := Lib.hid (show a.tmod m + m = a % m by
      have := Int.tmod_def a m; rw [Int.tmod_eq_emod] at h ⊢; split at h
      · have := Int.emod_nonneg a (show m ≠ 0 by omega); omega
      · split <;> omega)
    go_enter Try.func14, Try.ntmps14
    go_wp2
    go_ret
    exact ⟨ret_int HF.out, rfl⟩
  · have HF := Lib.hid (show a.tmod m = a % m by
      rw [Int.tmod_eq_emod] at h ⊢; split at h
      · rename_i hh; rw [if_pos hh]; omega
      · have := Int.emod_lt_of_pos a hm; omega)
    go_enter Try.func14, Try.ntmps14
    go_wp2
    go_ret
    exact ⟨ret_int HF.out, rfl⟩

theorem neN_t {a b : Nat} (h : ¬ a = b) : ((a : Int) != (b : Int)) = true := by simp; omega
end Go.Proofs.Ytgbamgijpgjmgaa
/- Contract of math/bits.Div64. -/
namespace Go.Proofs.Ytgbamgijpgjmgaa
open Go.RowKit

theorem bitLen_facts {x : Nat} (h0 : 0 < x) (h1 : x < 18446744073709551616) : ∃ k : Nat, Lib.bitLen x = k + 1 ∧ k < 64 ∧ 2 ^ k ≤ x ∧ x < 2 ^ (k + 1) := by
  have key : ∀ k : Nat, k ≤ 63 → x < 2 ^ (k + 1) → 2 ^ k ≤ x → Lib.bitLen x = k + 1 := by
    intro k hk h2 h3
    have := Lib.bitLen_shift k x h3 h1
    have e : x / 2 ^ k = 1 := by
      have hp : 0 < 2 ^ k := Nat.pow_pos (by omega)
      apply Nat.div_eq_of_lt_le
      · omega
      · rw [Nat.pow_succ] at h2; omega
    rw [this, e]; rfl
  have ex : ∀ m : Nat, m ≤ 64 → x < 2 ^ m → ∃ k, k < 64 ∧ x < 2 ^ (k + 1) ∧ 2 ^ k ≤ x := by
    intro m
    induction m with
    | zero => intro _ h; simp at h; omega
    | succ m ih =>
      intro hm h
      by_cases hlt : x < 2 ^ m
      · exact ih (by omega) hlt
      · exact ⟨m, by omega, h, by omega⟩
  obtain ⟨k, hk, h2, h3⟩ := ex 64 (Nat.le_refl _) (by simpa using h1)
  exact ⟨k, key k (by omega) h2 h3, hk, h3, h2⟩


/-- y moved up until its highest bit is set -/
theorem norm_facts {y : Int} {k s : Nat} (hy : 0 < y) (h1 : 2 ^ k ≤ y.toNat) (h2 : y.toNat < 2 ^ (k + 1)) (hk : k < 64) (hs : 63 - k = s) :
    IntKind.u64.wrap (y * 2 ^ s) = y * 2 ^ s ∧ 9223372036854775808 ≤ y * 2 ^ s ∧ y * 2 ^ s ≤ 18446744073709551615 := by
  obtain ⟨n, rfl⟩ := Int.eq_ofNat_of_zero_le (Int.le_of_lt hy)
  rw [Int.toNat_natCast] at h1 h2
  have e : ((n : Int) * 2 ^ s) = ((n * 2 ^ s : Nat) : Int) := by simp
  have g1 : 2 ^ k * 2 ^ s ≤ n * 2 ^ s := Nat.mul_le_mul_right _ h1
  have g2 : n * 2 ^ s < 2 ^ (k + 1) * 2 ^ s := Nat.mul_lt_mul_of_pos_right h2 (Nat.pow_pos (by omega))
  rw [← Nat.pow_add] at g1 g2
  rw [show k + s = 63 by omega] at g1
  rw [show k + 1 + s = 64 by omega] at g2
  rw [e, IntKind.wrap_u64]
  omega
theorem or_facts {hi lo y : Int} {s : Nat} (hs : s ≤ 63) (h0 : 0 ≤ hi) (hl0 : 0 ≤ lo) (hl1 : lo ≤ 18446744073709551615) (hy : hi < y) (hY : y * 2 ^ s ≤ 18446744073709551615) :
    bits .or .u64 (IntKind.u64.wrap (hi * 2 ^ s)) (lo / 2 ^ (64 - s)) = hi * 2 ^ s + lo / 2 ^ (64 - s) ∧ hi * 2 ^ s + lo / 2 ^ (64 - s) < y * 2 ^ s ∧ 0 ≤ hi * 2 ^ s + lo / 2 ^ (64 - s) := by
  obtain ⟨a, rfl⟩ := Int.eq_ofNat_of_zero_le h0
  obtain ⟨b, rfl⟩ := Int.eq_ofNat_of_zero_le hl0
  obtain ⟨c, rfl⟩ := Int.eq_ofNat_of_zero_le (show 0 ≤ y by omega)
  have e1 : ((a : Int) * 2 ^ s) = ((a * 2 ^ s : Nat) : Int) := by simp
  have e2 : ((c : Int) * 2 ^ s) = ((c * 2 ^ s : Nat) : Int) := by simp
  have e3 : ((b : Int) / 2 ^ (64 - s)) = ((b / 2 ^ (64 - s) : Nat) : Int) := by simp
  have hac : a + 1 ≤ c := by omega
  have g1 : (a + 1) * 2 ^ s ≤ c * 2 ^ s := Nat.mul_le_mul_right _ hac
  have g2 : b / 2 ^ (64 - s) < 2 ^ s := by
    apply Nat.div_lt_of_lt_mul
    rw [← Nat.pow_add, show 64 - s + s = 64 by omega]; omega
  rw [e2] at hY
  rw [Nat.add_mul, Nat.one_mul] at g1
  have ho := Nat.two_pow_add_eq_or_of_lt g2 a
  rw [Nat.mul_comm] at ho
  rw [e1, e2, e3, IntKind.wrap_u64]
  clear e1 e2 e3
  generalize a * 2 ^ s = a' at *
  generalize c * 2 ^ s = c' at *
  generalize b / 2 ^ (64 - s) = b' at *
  generalize 2 ^ s = p at *
  have hb : a' < 18446744073709551616 := by omega
  rw [show ((a' : Nat) : Int) % 18446744073709551616 = (a' : Int) by omega]
  rw [bits_or_u64_nat _ _ hb (by omega), ← ho]
  omega
theorem and_mask {a : Int} (h0 : 0 ≤ a) (h1 : a ≤ 18446744073709551615) : bits .and .u64 a 4294967295 = a % 4294967296 := by
  obtain ⟨n, rfl⟩ := Int.eq_ofNat_of_zero_le h0
  have h := bits_and_u64_nat n 4294967295 (by omega) (by omega)
  have e : n &&& 4294967295 = n % 4294967296 := Nat.and_two_pow_sub_one_eq_mod n 32
  rw [e] at h
  exact h.trans (by omega)
theorem up_facts {hi lo : Int} {s : Nat} (hs : s ≤ 63) : (hi * 18446744073709551616 + lo) * 2 ^ s = (hi * 2 ^ s + lo / 2 ^ (64 - s)) * 18446744073709551616 + IntKind.u64.wrap (lo * 2 ^ s) := by
  rw [IntKind.wrap_u64]
  have hp : (18446744073709551616 : Int) = 2 ^ (64 - s) * 2 ^ s := by rw [← Int.pow_add, show 64 - s + s = 64 by omega]; rfl
  have hd : lo * 2 ^ s / 18446744073709551616 = lo / 2 ^ (64 - s) := by
    conv => lhs; rw [hp]
    exact Int.mul_ediv_mul_of_pos_left _ _ (Int.pow_pos (by omega))
  have := Int.mul_ediv_add_emod (lo * 2 ^ s) 18446744073709551616
  rw [hd] at this
  grind
theorem two_digits {U Y L1 L0 : Int} (hY : 0 < Y) : ((U * 4294967296 + L1) * 4294967296 + L0) / Y = (U * 4294967296 + L1) / Y * 4294967296 + ((U * 4294967296 + L1) % Y * 4294967296 + L0) / Y ∧ ((U * 4294967296 + L1) * 4294967296 + L0) % Y = ((U * 4294967296 + L1) % Y * 4294967296 + L0) % Y := by
  have h := Int.mul_ediv_add_emod (U * 4294967296 + L1) Y
  generalize (U * 4294967296 + L1) / Y = q at *
  generalize (U * 4294967296 + L1) % Y = V at *
  rw [← h]
  have e : (Y * q + V) * 4294967296 + L0 = (V * 4294967296 + L0) + Y * (q * 4294967296) := by grind
  rw [e, Int.add_mul_ediv_left _ _ (by omega), Int.add_mul_emod_self_left]
  omega
theorem down_facts {X y : Int} {s : Nat} : X * 2 ^ s / (y * 2 ^ s) = X / y ∧ X * 2 ^ s % (y * 2 ^ s) / 2 ^ s = X % y := by
  have hp : (0 : Int) < 2 ^ s := Int.pow_pos (by omega)
  refine ⟨Int.mul_ediv_mul_of_pos_left _ _ hp, ?_⟩
  rw [Int.mul_comm X, Int.mul_comm y, Int.mul_emod_mul_of_pos _ _ hp, Int.mul_ediv_cancel_left _ (by omega)]
theorem start_facts {U y1 : Int} (hy : 2147483648 ≤ y1) (hU0 : 0 ≤ U) (hU1 : U ≤ 18446744073709551615) :
    IntKind.u64.wrap (U - IntKind.u64.wrap (U / y1 * y1)) = U % y1 ∧ 0 ≤ U % y1 ∧ U % y1 < y1 ∧ U = U / y1 * y1 + U % y1 ∧ 0 ≤ U / y1 ∧ U / y1 ≤ U := by
  have h := Int.mul_ediv_add_emod U y1
  have h1 := Int.emod_nonneg U (show y1 ≠ 0 by omega)
  have h2 := Int.emod_lt_of_pos U (show 0 < y1 by omega)
  have h3 := Int.ediv_nonneg hU0 (show 0 ≤ y1 by omega)
  have h4 := Int.ediv_le_self y1 hU0
  rw [Int.mul_comm] at h
  have h5 := Int.mul_nonneg h3 (show 0 ≤ y1 by omega)
  generalize U / y1 * y1 = p at *
  generalize U / y1 = q at *
  generalize U % y1 = r at *
  rw [IntKind.wrap_u64, IntKind.wrap_u64]
  omega
theorem kd_start {U Y y1 y0 u1 B Q : Int} (hB : 0 < B) (hY : Y = y1 * B + y0) (h1 : 0 < y1) (h0 : 0 ≤ y0) (hu : u1 < B) (hY0 : 0 < Y) (hU : 0 ≤ U) (hu0 : 0 ≤ u1) (hQ : (U * B + u1) / Y = Q) : Q ≤ U / y1 := by
  have a1 : Q * Y ≤ U * B + u1 := by rw [← hQ]; exact Int.ediv_mul_le _ (by omega)
  have a2 : 0 ≤ Q := by rw [← hQ]; exact Int.ediv_nonneg (Int.add_nonneg (Int.mul_nonneg hU (by omega)) hu0) (by omega)
  have a3 : Q * Y = Q * y1 * B + Q * y0 := by rw [hY]; grind
  have a4 := Int.mul_nonneg a2 h0
  rw [Int.le_ediv_iff_mul_le h1]
  rcases Int.lt_or_le U (Q * y1) with h | h
  · have := Int.mul_le_mul_of_nonneg_right (show U + 1 ≤ Q * y1 by omega) (show 0 ≤ B by omega)
    rw [Int.add_mul, Int.one_mul] at this
    omega
  · exact h
/-- the wrapped rest is the rest -/
theorem rest_facts {U Y u1 q : Int} (hY0 : 0 < Y) (hY1 : Y ≤ 18446744073709551615) (hq : (U * 4294967296 + u1) / Y = q) :
    IntKind.u64.wrap (IntKind.u64.wrap (IntKind.u64.wrap (U * 4294967296) + u1) - IntKind.u64.wrap (q * Y)) = (U * 4294967296 + u1) % Y := by
  have h := Int.mul_ediv_add_emod (U * 4294967296 + u1) Y
  have h1 := Int.emod_nonneg (U * 4294967296 + u1) (show Y ≠ 0 by omega)
  have h2 := Int.emod_lt_of_pos (U * 4294967296 + u1) hY0
  rw [hq, Int.mul_comm] at h
  generalize (U * 4294967296 + u1) % Y = r at *
  generalize q * Y = p at *
  rw [IntKind.wrap_u64, IntKind.wrap_u64, IntKind.wrap_u64, IntKind.wrap_u64]
  omega
theorem small_prod {q y0 : Int} (h0 : 0 ≤ q) (h1 : q < 4294967296) (g0 : 0 ≤ y0) (g1 : y0 ≤ 4294967295) : 0 ≤ q * y0 ∧ q * y0 ≤ 18446744065119617025 := by
  refine ⟨Int.mul_nonneg h0 g0, ?_⟩
  have a1 : q * y0 ≤ 4294967295 * y0 := Int.mul_le_mul_of_nonneg_right (by omega) g0
  omega

set_option maxHeartbeats 1000000 in
set_option maxRecDepth 100000 in
theorem div64_hi (hi lo y : Int) (w : World) (h0 : 0 < hi) (hl0 : 0 ≤ lo) (hl1 : lo ≤ 18446744073709551615) (hy : hi < y) (hy1 : y ≤ 18446744073709551615) :
    Calls Try.prog 90 #[.int .u64 hi, .int .u64 lo, .int .u64 y] w fun e w' => e = .returned (.tuple #[.int .u64 ((hi * 18446744073709551616 + lo) / y), .int .u64 ((hi * 18446744073709551616 + lo) % y)]) ∧ w = w' := by
  have b1 : (y == 0) = false := by simp; omega
  have b2 : decide (y ≤ hi) = false := by simp; omega
  have b3 : (hi == 0) = false := by simp; omega
  obtain ⟨k, hk, hk1, hk2, hk3⟩ := bitLen_facts (x := y.toNat) (by omega) (by omega)
  obtain ⟨s, hs⟩ : ∃ s : Nat, 63 - k = s := ⟨_, rfl⟩
  have hs1 : s ≤ 63 := by omega
  have hlz : (64 - (((k + 1 : Nat)) : Int)) = (s : Int) := by omega
  obtain ⟨n1, n2, n3⟩ := norm_facts (by omega) hk2 hk3 hk1 hs
  obtain ⟨o1, o2, o3⟩ := or_facts hs1 (Int.le_of_lt h0) hl0 hl1 hy n3
  have up := up_facts (hi := hi) (lo := lo) hs1
  obtain ⟨d1, d2⟩ := down_facts (X := hi * 18446744073709551616 + lo) (y := y) (s := s)
  rw [up] at d1 d2
  rw [← d1, ← d2]
  have hL : 0 ≤ IntKind.u64.wrap (lo * 2 ^ s) ∧ IntKind.u64.wrap (lo * 2 ^ s) ≤ 18446744073709551615 := by rw [IntKind.wrap_u64]; omega
  obtain ⟨hL0, hL1⟩ := hL
  have HK := Lib.hid hk
  have HZ := Lib.hid hlz
  clear hk hk2 hk3 d1 d2 up hs hlz
  generalize hYe : y * 2 ^ s = Y at *
  generalize hUe : hi * 2 ^ s + lo / 2 ^ (64 - s) = U at *
  generalize hLe : IntKind.u64.wrap (lo * 2 ^ s) = L at *
  clear hUe
  have b4 : (Y / 4294967296 == 0) = false := by simp; omega
  have hA : bits .and .u64 Y 4294967295 = Y % 4294967296 := and_mask (by omega) (by omega)
  have hB : bits .and .u64 L 4294967295 = L % 4294967296 := and_mask (by omega) (by omega)
  obtain ⟨y1, hy1e⟩ : ∃ y1, Y / 4294967296 = y1 := ⟨_, rfl⟩
  obtain ⟨y0, hy0e⟩ : ∃ y0, Y % 4294967296 = y0 := ⟨_, rfl⟩
  obtain ⟨u1, hu1e⟩ : ∃ u1, L / 4294967296 = u1 := ⟨_, rfl⟩
  obtain ⟨u0, hu0e⟩ : ∃ u0, L % 4294967296 = u0 := ⟨_, rfl⟩
  have HYe := Lib.hid (show Y = y1 * 4294967296 + y0 by omega)
  have HLe := Lib.hid (show U * 18446744073709551616 + L = (U * 4294967296 + u1) * 4294967296 + u0 by omega)
  have p1 : 2147483648 ≤ y1 := by omega
  have p2 : y1 ≤ 4294967295 := by omega
  have p3 : 0 ≤ y0 := by omega
  have p4 : y0 ≤ 4294967295 := by omega
  have p5 : 0 ≤ u1 := by omega
  have p6 : u1 ≤ 4294967295 := by omega
  have p7 : 0 ≤ u0 := by omega
  have p8 : u0 ≤ 4294967295 := by omega
  have p9 : U ≤ 18446744073709551615 := by omega
  rw [hy1e] at b4
  obtain ⟨s1, s2, s3, s4, s5, s6⟩ := start_facts p1 o3 p9
  obtain ⟨q0, hq0⟩ : ∃ q, U / y1 = q := ⟨_, rfl⟩
  obtain ⟨r0, hr0⟩ : ∃ r, U % y1 = r := ⟨_, rfl⟩
  rw [hq0, hr0] at s1
  rw [hq0] at s4 s5 s6
  rw [hr0] at s2 s3 s4
  clear hr0
  have S4 := Lib.hid s4
  clear s4
  obtain ⟨Q1, hQ1⟩ : ∃ q, (U * 4294967296 + u1) / Y = q := ⟨_, rfl⟩
  have HQ1 := Lib.hid hQ1
  have HQ0 := Lib.hid (show Q1 ≤ q0 by rw [← hq0]; exact kd_start (by omega) HYe.out (by omega) p3 (by omega) (by omega) o3 p5 hQ1)
  have q1a : 0 ≤ Q1 := by rw [← hQ1]; exact Int.ediv_nonneg (by omega) (by omega)
  have q1b : Q1 < 4294967296 := by rw [← hQ1]; exact kd_lt (by omega) (by omega) (by omega) (by omega)
  clear hQ1
  go_enter Try.func90, Try.ntmps90
  go_wp2_with fail
  refine (Try.bits_LeadingZeros64 y _ (by omega) hy1).mono ?_
  rintro e w' ⟨rfl, rfl⟩
  rw [HK.out, HZ.out]
  go_upto_block 0 with fail
  have Hq0 := Lib.hid hq0
  clear hq0 s1
  go_cut [15] (fun t wx => t = .int .u64 Q1 ∧ w' = wx)
  case first =>
    go_wp2_with fail
    go_loop [15, 16] (fun t v => ∃ q r : Int, t = .int .u64 q ∧ v = .int .u64 r ∧ 0 ≤ q ∧ q ≤ 18446744073709551615 ∧ 0 ≤ r ∧ r ≤ 4294967295 ∧ Hid (U = q * y1 + r) ∧ Hid (Q1 ≤ q)) (fun t _ => (intOf t).toNat)
    case atStart => exact ⟨q0, r0, congrArg (Value.int .u64) Hq0.out, rfl, by omega, by omega, by omega, by omega, S4, HQ0⟩
    case round =>
      obtain ⟨q, r, rfl, rfl, c1, c2, c3, c4, hI, hJ⟩ := hrel
      have c1' : Q1 ≤ q := hJ.out
      have HN := Lib.hid (show U = (q - 1) * y1 + (r + y1) by have := hI.out; grind)
      by_cases k1 : 4294967296 ≤ q
      · have d1 : decide (4294967296 ≤ q) = true := by simpa using k1
        have HM := Lib.hid (show Q1 ≤ q - 1 by omega)
        by_cases k3 : 4294967296 ≤ r + y1
        · have d3 : decide (4294967296 ≤ r + y1) = true := by simpa using k3
          have HE := Lib.hid (show q - 1 = Q1 by
            have := kd_far (by omega) (by omega) p3 (by omega) HYe.out o2 p5 HN.out k3
            have := kd_fit (by omega) HYe.out HN.out this.2
            have := HQ1.out; have := HM.out; omega)
          go_wp2
          go_meet
          exact ⟨congrArg (Value.int .u64) HE.out, rfl⟩
        · have d3 : decide (4294967296 ≤ r + y1) = false := by simpa using k3
          go_wp2
          go_round
          case rel => exact ⟨q - 1, r + y1, rfl, rfl, by omega, by omega, by omega, by omega, HN, HM⟩
          case measure => simp [intOf]; omega
      · have d1 : decide (4294967296 ≤ q) = false := by simpa using k1
        obtain ⟨m1, m2⟩ := small_prod c1 (by omega) p3 p4
        by_cases k2 : 4294967296 * r + u1 < q * y0
        · have d2 : decide (4294967296 * r + u1 < q * y0) = true := by simpa using k2
          have HM := Lib.hid (show Q1 ≤ q - 1 by rw [← HQ1.out]; exact kd_over (by omega) HYe.out hI.out (by omega))
          have hq1 : 1 ≤ q := by have := HM.out; omega
          by_cases k3 : 4294967296 ≤ r + y1
          · have d3 : decide (4294967296 ≤ r + y1) = true := by simpa using k3
            have HE := Lib.hid (show q - 1 = Q1 by
              have := kd_far (by omega) (by omega) p3 (by omega) HYe.out o2 p5 HN.out k3
              have := kd_fit (by omega) HYe.out HN.out this.2
              have := HQ1.out; have := HM.out; omega)
            go_wp2
            go_meet
            exact ⟨congrArg (Value.int .u64) HE.out, rfl⟩
          · have d3 : decide (4294967296 ≤ r + y1) = false := by simpa using k3
            go_wp2
            go_round
            case rel => exact ⟨q - 1, r + y1, rfl, rfl, by omega, by omega, by omega, by omega, HN, HM⟩
            case measure => simp [intOf]; omega
        · have d2 : decide (4294967296 * r + u1 < q * y0) = false := by simpa using k2
          have HE := Lib.hid (show q = Q1 by
            have := kd_fit (u1 := u1) (by omega) HYe.out hI.out (by omega)
            have := HQ1.out; omega)
          go_wp2
          go_meet
          exact ⟨congrArg (Value.int .u64) HE.out, rfl⟩
  case rest =>
    obtain ⟨rfl, rfl⟩ := hcut
    obtain ⟨V, hV⟩ : ∃ V, (U * 4294967296 + u1) % Y = V := ⟨_, rfl⟩
    have rf := rest_facts (show 0 < Y by omega) n3 HQ1.out
    rw [hV] at rf
    have HV := Lib.hid hV
    have v0 : 0 ≤ V := by rw [← hV]; exact Int.emod_nonneg _ (by omega)
    have v1 : V < Y := by rw [← hV]; exact Int.emod_lt_of_pos _ (by omega)
    clear hV
    obtain ⟨s1, s2, s3, s4, s5, s6⟩ := start_facts p1 v0 (show V ≤ 18446744073709551615 by omega)
    obtain ⟨q0', hq0⟩ : ∃ q, V / y1 = q := ⟨_, rfl⟩
    obtain ⟨r0', hr0⟩ : ∃ r, V % y1 = r := ⟨_, rfl⟩
    rw [hq0, hr0] at s1
    rw [hq0] at s4 s5 s6
    rw [hr0] at s2 s3 s4
    clear hr0
    have S4 := Lib.hid s4
    clear s4
    obtain ⟨Q0, hQ0⟩ : ∃ q, (V * 4294967296 + u0) / Y = q := ⟨_, rfl⟩
    have HQ0 := Lib.hid hQ0
    have HQs := Lib.hid (show Q0 ≤ q0' by rw [← hq0]; exact kd_start (by omega) HYe.out (by omega) p3 (by omega) (by omega) v0 p7 hQ0)
    have z1 : 0 ≤ Q0 := by rw [← hQ0]; exact Int.ediv_nonneg (by omega) (by omega)
    have z2 : Q0 < 4294967296 := by rw [← hQ0]; exact kd_lt (by omega) (by omega) (by omega) (by omega)
    clear hQ0
    have Hq0 := Lib.hid hq0
    go_upto_block 2 with fail
    clear hq0 s1 rf
    go_cut [18] (fun t wx => t = .int .u64 Q0 ∧ w' = wx)
    case first =>
      go_wp2_with fail
      go_loop [18, 16] (fun t v => ∃ q r : Int, t = .int .u64 q ∧ v = .int .u64 r ∧ 0 ≤ q ∧ q ≤ 18446744073709551615 ∧ 0 ≤ r ∧ r ≤ 4294967295 ∧ Hid (V = q * y1 + r) ∧ Hid (Q0 ≤ q)) (fun t _ => (intOf t).toNat)
      case atStart => exact ⟨q0', r0', congrArg (Value.int .u64) Hq0.out, rfl, by omega, by omega, by omega, by omega, S4, HQs⟩
      case round =>
        obtain ⟨q, r, rfl, rfl, c1, c2, c3, c4, hI, hJ⟩ := hrel
        have c1' : Q0 ≤ q := hJ.out
        have HN := Lib.hid (show V = (q - 1) * y1 + (r + y1) by have := hI.out; grind)
        by_cases k1 : 4294967296 ≤ q
        · have d1 : decide (4294967296 ≤ q) = true := by simpa using k1
          have HM := Lib.hid (show Q0 ≤ q - 1 by omega)
          by_cases k3 : 4294967296 ≤ r + y1
          · have d3 : decide (4294967296 ≤ r + y1) = true := by simpa using k3
            have HE := Lib.hid (show q - 1 = Q0 by
              have := kd_far (by omega) (by omega) p3 (by omega) HYe.out v1 p7 HN.out k3
              have := kd_fit (by omega) HYe.out HN.out this.2
              have := HQ0.out; have := HM.out; omega)
            go_wp2
            go_meet
            exact ⟨congrArg (Value.int .u64) HE.out, rfl⟩
          · have d3 : decide (4294967296 ≤ r + y1) = false := by simpa using k3
            go_wp2
            go_round
            case rel => exact ⟨q - 1, r + y1, rfl, rfl, by omega, by omega, by omega, by omega, HN, HM⟩
            case measure => simp [intOf]; omega
        · have d1 : decide (4294967296 ≤ q) = false := by simpa using k1
          obtain ⟨m1, m2⟩ := small_prod c1 (by omega) p3 p4
          by_cases k2 : 4294967296 * r + u0 < q * y0
          · have d2 : decide (4294967296 * r + u0 < q * y0) = true := by simpa using k2
            have HM := Lib.hid (show Q0 ≤ q - 1 by rw [← HQ0.out]; exact kd_over (by omega) HYe.out hI.out (by omega))
            have hq1 : 1 ≤ q := by have := HM.out; omega
            by_cases k3 : 4294967296 ≤ r + y1
            · have d3 : decide (4294967296 ≤ r + y1) = true := by simpa using k3
              have HE := Lib.hid (show q - 1 = Q0 by
                have := kd_far (by omega) (by omega) p3 (by omega) HYe.out v1 p7 HN.out k3
                have := kd_fit (by omega) HYe.out HN.out this.2
                have := HQ0.out; have := HM.out; omega)
              go_wp2
              go_meet
              exact ⟨congrArg (Value.int .u64) HE.out, rfl⟩
            · have d3 : decide (4294967296 ≤ r + y1) = false := by simpa using k3
              go_wp2
              go_round
              case rel => exact ⟨q - 1, r + y1, rfl, rfl, by omega, by omega, by omega, by omega, HN, HM⟩
              case measure => simp [intOf]; omega
          · have d2 : decide (4294967296 * r + u0 < q * y0) = false := by simpa using k2
            have HE := Lib.hid (show q = Q0 by
              have := kd_fit (u1 := u0) (by omega) HYe.out hI.out (by omega)
              have := HQ0.out; omega)
            go_wp2
            go_meet
            exact ⟨congrArg (Value.int .u64) HE.out, rfl⟩
    case rest =>
      obtain ⟨rfl, rfl⟩ := hcut
      have rf := rest_facts (show 0 < Y by omega) n3 HQ0.out
      have HR := Lib.hid (two_digits (U := U) (Y := Y) (L1 := u1) (L0 := u0) (by omega))
      go_wp2_with fail
      go_ret2
      exact ⟨ret_two (by rw [HLe.out, HR.out.1, HQ1.out, HV.out, HQ0.out]) (by rw [HLe.out, HR.out.2, HV.out]), rfl⟩

set_option maxHeartbeats 400000 in
theorem div64_lo (lo y : Int) (w : World) (hl0 : 0 ≤ lo) (hl1 : lo ≤ 18446744073709551615) (hy : 0 < y) (hy1 : y ≤ 18446744073709551615) :
    Calls Try.prog 90 #[.int .u64 0, .int .u64 lo, .int .u64 y] w fun e w' => e = .returned (.tuple #[.int .u64 (lo / y), .int .u64 (lo % y)]) ∧ Q w w' := by
  have b1 : (y == 0) = false := by simp; omega
  have b2 : decide (y ≤ 0) = false := by simp; omega
  have hd0 := Int.ediv_nonneg hl0 (Int.le_of_lt hy)
  have hd1 := Int.ediv_le_self y hl0
  go_enter Try.func90, Try.ntmps90
  go_wp2_with fail
  go_quiet (fail)
  go_wp2_with fail
  go_ret2
  exact ⟨ret_two rfl rfl, (Q.refl _).drewN _⟩
theorem div64_c (hi lo y : Int) (w : World) (h0 : 0 ≤ hi) (hl0 : 0 ≤ lo) (hl1 : lo ≤ 18446744073709551615) (hy : hi < y) (hy1 : y ≤ 18446744073709551615) :
    Calls Try.prog 90 #[.int .u64 hi, .int .u64 lo, .int .u64 y] w fun e w' => e = .returned (.tuple #[.int .u64 ((hi * 18446744073709551616 + lo) / y), .int .u64 ((hi * 18446744073709551616 + lo) % y)]) ∧ Q w w' := by
  by_cases h : 0 < hi
  · exact (div64_hi hi lo y w h hl0 hl1 hy hy1).mono fun _ _ ⟨a, b⟩ => ⟨a, b ▸ Q.refl _⟩
  · obtain rfl : hi = 0 := by omega
    rw [Int.zero_mul, Int.zero_add]
    exact div64_lo lo y w hl0 hl1 hy hy1
end Go.Proofs.Ytgbamgijpgjmgaa
/- Contracts of divide, Part, Ceil of package share and of the reference's Divide, Part, Ceil. -/
namespace Go.Proofs.Ytgbamgijpgjmgaa
open Go.RowKit

def divOk (t n d : Int) : Bool := okU t && (okL n && (okL d && decide (d ≠ 0)))
def divFit (t n d : Int) : Bool := decide (t * n / d ≤ 1099511627776)
def divQ (t n d : Int) : Int := if divOk t n d = true ∧ divFit t n d = true then t * n / d else 0
def divR (t n d : Int) : Int := if divOk t n d = true ∧ divFit t n d = true then t * n % d else 0
def divE (t n d : Int) : Int := if divOk t n d then (if divFit t n d then 0 else 5) else 1
def ceilN (t n d : Int) : Int := divQ t n d + (if 0 < divR t n d then 1 else 0)
def ceilQ (t n d : Int) : Int := if divE t n d = 0 ∧ ceilN t n d ≤ 1099511627776 then ceilN t n d else 0
def ceilE (t n d : Int) : Int := if divE t n d = 0 then (if ceilN t n d ≤ 1099511627776 then 0 else 5) else divE t n d
theorem ret_three {k k' k'' : IntKind} {a b c d x y : Int} (h : a = b) (h' : c = d) (h'' : x = y) : Ending.returned (.tuple #[.int k a, .int k' c, .int k'' x]) = .returned (.tuple #[.int k b, .int k' d, .int k'' y]) := by rw [h, h', h'']
theorem mul64_c (x y : Int) (w : World) (hx0 : 0 ≤ x) (hx1 : x ≤ 18446744073709551615) (hy0 : 0 ≤ y) (hy1 : y ≤ 18446744073709551615) :
    Calls Try.prog 89 #[.int .u64 x, .int .u64 y] w fun e w' => e = .returned (.tuple #[.int .u64 (x * y / 18446744073709551616), .int .u64 (x * y % 18446744073709551616)]) ∧ w = w' := by
  obtain ⟨a, rfl⟩ := Int.eq_ofNat_of_zero_le hx0
  obtain ⟨b, rfl⟩ := Int.eq_ofNat_of_zero_le hy0
  refine (Try.bits_Mul64 a b (by omega) (by omega) w).mono ?_
  rintro e w' ⟨rfl, rfl⟩
  exact ⟨ret_two (by simp) (by simp), rfl⟩
theorem divOk_iff {t n d : Int} : divOk t n d = true ↔ (0 ≤ t ∧ t ≤ 1099511627776) ∧ (0 ≤ n ∧ n ≤ 1152921504606846976) ∧ 0 < d ∧ d ≤ 1152921504606846976 := by
  simp only [divOk, Bool.and_eq_true, okU_iff, okL_iff, decide_eq_true_eq]; omega
theorem prod_range {t n : Int} (h0 : 0 ≤ t) (h1 : t ≤ 1152921504606846976) (g0 : 0 ≤ n) (g1 : n ≤ 1152921504606846976) : 0 ≤ t * n ∧ t * n ≤ 1329227995784915872903807060280344576 := by
  refine ⟨Int.mul_nonneg h0 g0, ?_⟩
  have a1 : t * n ≤ 1152921504606846976 * n := Int.mul_le_mul_of_nonneg_right h1 g0
  omega

set_option maxHeartbeats 1000000 in
theorem divide_no (t n d : Int) (w : World) (h : divOk t n d = false) :
    Calls Try.prog 62 #[.int .i64 t, .int .i64 n, .int .i64 d] w fun e w' => e = .returned (.tuple #[.int .u64 0, .int .u64 0, .int .i64 1]) ∧ w = w' := by
  have HH := Lib.hid h
  clear h
  cases h1 : okU t
  · go_enter Try.func62, Try.ntmps62
    go_wp2_with (first | (go_at_call 75; refine (isAmount_c _ _).mono ?_; rintro e w' ⟨rfl, rfl⟩) | (go_at_call 88; refine (isLarge_c _ _).mono ?_; rintro e w' ⟨rfl, rfl⟩))
    go_ret3
    exact ⟨rfl, rfl⟩
  · cases h2 : okL n
    · go_enter Try.func62, Try.ntmps62
      go_wp2_with (first | (go_at_call 75; refine (isAmount_c _ _).mono ?_; rintro e w' ⟨rfl, rfl⟩) | (go_at_call 88; refine (isLarge_c _ _).mono ?_; rintro e w' ⟨rfl, rfl⟩))
      go_ret3
      exact ⟨rfl, rfl⟩
    · cases h3 : okL d
      · go_enter Try.func62, Try.ntmps62
        go_wp2_with (first | (go_at_call 75; refine (isAmount_c _ _).mono ?_; rintro e w' ⟨rfl, rfl⟩) | (go_at_call 88; refine (isLarge_c _ _).mono ?_; rintro e w' ⟨rfl, rfl⟩))
        go_ret3
        exact ⟨rfl, rfl⟩
      · obtain rfl : d = 0 := by
          have := HH.out
          simp only [divOk, h1, h2, h3, Bool.true_and, decide_eq_false_iff_not, ne_eq, Classical.not_not] at this
          exact this
        go_enter Try.func62, Try.ntmps62
        go_wp2_with (first | (go_at_call 75; refine (isAmount_c _ _).mono ?_; rintro e w' ⟨rfl, rfl⟩) | (go_at_call 88; refine (isLarge_c _ _).mono ?_; rintro e w' ⟨rfl, rfl⟩))
        go_ret3
        exact ⟨rfl, rfl⟩

set_option maxHeartbeats 1000000 in
theorem divide_yes (t n d : Int) (w : World) (h : divOk t n d = true) :
    Calls Try.prog 62 #[.int .i64 t, .int .i64 n, .int .i64 d] w fun e w' => e = .returned (.tuple #[.int .u64 (divQ t n d), .int .u64 (divR t n d), .int .i64 (divE t n d)]) ∧ Q w w' := by
  obtain ⟨⟨t0, t1⟩, ⟨n0, n1⟩, d0, d1⟩ := divOk_iff.1 h
  have hOk : divOk t n d = true := h
  clear h
  have e1 : okU t = true := okU_iff.2 ⟨t0, t1⟩
  have e2 : okL n = true := okL_iff.2 ⟨n0, n1⟩
  have e3 : okL d = true := okL_iff.2 ⟨by omega, d1⟩
  have e4 : (d == 0) = false := by simp; omega
  obtain ⟨pr0, pr1⟩ := prod_range t0 (by omega) n0 n1
  have HQ := Lib.hid (show divQ t n d = if t * n / d ≤ 1099511627776 then t * n / d else 0 by simp [divQ, hOk, divFit])
  have HR := Lib.hid (show divR t n d = if t * n / d ≤ 1099511627776 then t * n % d else 0 by simp [divR, hOk, divFit])
  have HE := Lib.hid (show divE t n d = if t * n / d ≤ 1099511627776 then 0 else 5 by simp [divE, hOk, divFit])
  clear hOk
  obtain ⟨p, hp⟩ : ∃ p, t * n = p := ⟨_, rfl⟩
  rw [hp] at HQ HR HE pr0 pr1
  have hp0 : 0 ≤ p / 18446744073709551616 := by omega
  have hp1 : p / 18446744073709551616 ≤ 18446744073709551615 := by omega
  have hp2 : 0 ≤ p % 18446744073709551616 := by omega
  have hp3 : p % 18446744073709551616 ≤ 18446744073709551615 := by omega
  have hdiv := Int.mul_ediv_add_emod p d
  have hm0 := Int.emod_nonneg p (show d ≠ 0 by omega)
  have hm1 := Int.emod_lt_of_pos p d0
  have hq0 := Int.ediv_nonneg pr0 (Int.le_of_lt d0)
  have HDV := Lib.hid hdiv
  clear hdiv
  by_cases hbig : d ≤ p / 18446744073709551616
  · have c1 : decide (d ≤ p / 18446744073709551616) = true := by simpa using hbig
    have hno : ¬ p / d ≤ 1099511627776 := by
      have : (18446744073709551616 : Int) ≤ p / d := by rw [Int.le_ediv_iff_mul_le d0]; omega
      omega
    go_enter Try.func62, Try.ntmps62
    go_wp2_with (first | (go_at_call 75; refine (isAmount_c _ _).mono ?_; rintro e w' ⟨rfl, rfl⟩) | (go_at_call 88; refine (isLarge_c _ _).mono ?_; rintro e w' ⟨rfl, rfl⟩))
    refine (mul64_c t n _ t0 (by omega) n0 (by omega)).mono ?_
    rintro e w' ⟨rfl, rfl⟩
    go_wp2_with fail
    go_ret3
    exact ⟨ret_three (by rw [HQ.out, if_neg (by omega)]) (by rw [HR.out, if_neg (by omega)]) (by rw [HE.out, if_neg (by omega)]), Q.refl _⟩
  · have c1 : decide (d ≤ p / 18446744073709551616) = false := by simpa using hbig
    by_cases hfit : p / d ≤ 1099511627776
    · have c2 : decide (1099511627776 < p / d) = false := by simp; omega
      go_enter Try.func62, Try.ntmps62
      go_wp2_with (first | (go_at_call 75; refine (isAmount_c _ _).mono ?_; rintro e w' ⟨rfl, rfl⟩) | (go_at_call 88; refine (isLarge_c _ _).mono ?_; rintro e w' ⟨rfl, rfl⟩))
      refine (mul64_c t n _ t0 (by omega) n0 (by omega)).mono ?_
      rintro e w' ⟨rfl, rfl⟩
      go_wp2_with fail
      refine (div64_c _ _ d _ hp0 hp2 hp3 (by omega) (by omega)).mono ?_
      rw [show p / 18446744073709551616 * 18446744073709551616 + p % 18446744073709551616 = p by omega]
      rintro e w' ⟨rfl, hw⟩
      go_wp2_with fail
      go_ret3
      exact ⟨ret_three (by rw [HQ.out, if_pos (by omega)]) (by rw [HR.out, if_pos (by omega)]) (by rw [HE.out, if_pos (by omega)]), hw⟩
    · have c2 : decide (1099511627776 < p / d) = true := by simp; omega
      go_enter Try.func62, Try.ntmps62
      go_wp2_with (first | (go_at_call 75; refine (isAmount_c _ _).mono ?_; rintro e w' ⟨rfl, rfl⟩) | (go_at_call 88; refine (isLarge_c _ _).mono ?_; rintro e w' ⟨rfl, rfl⟩))
      refine (mul64_c t n _ t0 (by omega) n0 (by omega)).mono ?_
      rintro e w' ⟨rfl, rfl⟩
      go_wp2_with fail
      refine (div64_c _ _ d _ hp0 hp2 hp3 (by omega) (by omega)).mono ?_
      rw [show p / 18446744073709551616 * 18446744073709551616 + p % 18446744073709551616 = p by omega]
      rintro e w' ⟨rfl, hw⟩
      go_wp2_with fail
      go_ret3
      exact ⟨ret_three (by rw [HQ.out, if_neg (by omega)]) (by rw [HR.out, if_neg (by omega)]) (by rw [HE.out, if_neg (by omega)]), hw⟩
theorem divide_c (t n d : Int) (w : World) :
    Calls Try.prog 62 #[.int .i64 t, .int .i64 n, .int .i64 d] w fun e w' => e = .returned (.tuple #[.int .u64 (divQ t n d), .int .u64 (divR t n d), .int .i64 (divE t n d)]) ∧ Q w w' := by
  cases h : divOk t n d
  · refine (divide_no t n d w h).mono ?_
    rintro e w' ⟨rfl, rfl⟩
    exact ⟨ret_three (by simp [divQ, h]) (by simp [divR, h]) (by simp [divE, h]), Q.refl _⟩
  · exact divide_yes t n d w h
theorem divQ_range (t n d : Int) : 0 ≤ divQ t n d ∧ divQ t n d ≤ 1099511627776 := by
  unfold divQ
  split
  · rename_i h
    obtain ⟨⟨t0, t1⟩, ⟨n0, n1⟩, d0, d1⟩ := divOk_iff.1 h.1
    have := h.2
    simp only [divFit, decide_eq_true_eq] at this
    exact ⟨Int.ediv_nonneg (Int.mul_nonneg t0 n0) (by omega), this⟩
  · omega
theorem divR_range (t n d : Int) : 0 ≤ divR t n d ∧ divR t n d ≤ 1152921504606846976 := by
  unfold divR
  split
  · rename_i h
    obtain ⟨⟨t0, t1⟩, ⟨n0, n1⟩, d0, d1⟩ := divOk_iff.1 h.1
    exact ⟨Int.emod_nonneg _ (by omega), by have := Int.emod_lt_of_pos (t * n) d0; omega⟩
  · omega
theorem divE_range (t n d : Int) : 0 ≤ divE t n d ∧ divE t n d ≤ 5 := by
  unfold divE; split
  · split <;> omega
  · omega

set_option maxHeartbeats 400000 in
theorem part_c (t n d : Int) (w : World) :
    Calls Try.prog 28 #[.int .i64 t, .int .i64 n, .int .i64 d] w fun e w' => e = .returned (.tuple #[.int .i64 (divQ t n d), .int .i64 (divE t n d)]) ∧ Q w w' := by
  obtain ⟨q0, q1⟩ := divQ_range t n d
  have HD := Lib.hid (divide_c t n d w)
  generalize divQ t n d = q at *
  generalize divR t n d = r at *
  generalize divE t n d = x at *
  go_enter Try.func28, Try.ntmps28
  go_wp2_with fail
  refine HD.out.mono ?_
  rintro e w' ⟨rfl, hw⟩
  go_wp2_with fail
  go_ret2
  exact ⟨rfl, hw⟩

set_option maxHeartbeats 400000 in
theorem ceil_c (t n d : Int) (w : World) :
    Calls Try.prog 29 #[.int .i64 t, .int .i64 n, .int .i64 d] w fun e w' => e = .returned (.tuple #[.int .i64 (ceilQ t n d), .int .i64 (ceilE t n d)]) ∧ Q w w' := by
  obtain ⟨q0, q1⟩ := divQ_range t n d
  obtain ⟨r0, r1⟩ := divR_range t n d
  have HD := Lib.hid (divide_c t n d w)
  have HCQ := Lib.hid (show ceilQ t n d = if divE t n d = 0 ∧ divQ t n d + (if 0 < divR t n d then 1 else 0) ≤ 1099511627776 then divQ t n d + (if 0 < divR t n d then 1 else 0) else 0 from rfl)
  have HCE := Lib.hid (show ceilE t n d = if divE t n d = 0 then (if divQ t n d + (if 0 < divR t n d then 1 else 0) ≤ 1099511627776 then 0 else 5) else divE t n d from rfl)
  generalize ceilQ t n d = cq at *
  generalize ceilE t n d = ce at *
  generalize divQ t n d = q at *
  generalize divR t n d = r at *
  generalize divE t n d = x at *
  by_cases hx : x = 0
  · subst hx
    by_cases hr : 0 < r
    · by_cases hb : 1099511627776 < q + 1
      · go_enter Try.func29, Try.ntmps29
        go_wp2_with fail
        refine HD.out.mono ?_
        rintro e w' ⟨rfl, hw⟩
        go_wp2_with fail
        go_ret2
        exact ⟨ret_two (by rw [HCQ.out, if_pos (show 0 < r by omega), if_neg (by omega)]) (by rw [HCE.out, if_pos trivial, if_pos (show 0 < r by omega), if_neg (by omega)]), hw⟩
      · go_enter Try.func29, Try.ntmps29
        go_wp2_with fail
        refine HD.out.mono ?_
        rintro e w' ⟨rfl, hw⟩
        go_wp2_with fail
        go_ret2
        exact ⟨ret_two (by rw [HCQ.out, if_pos (show 0 < r by omega), if_pos ⟨trivial, by omega⟩]) (by rw [HCE.out, if_pos trivial, if_pos (show 0 < r by omega), if_pos (by omega)]), hw⟩
    · go_enter Try.func29, Try.ntmps29
      go_wp2_with fail
      refine HD.out.mono ?_
      rintro e w' ⟨rfl, hw⟩
      go_wp2_with fail
      go_ret2
      exact ⟨ret_two (by rw [HCQ.out, if_neg (show ¬ 0 < r by omega), if_pos ⟨trivial, by omega⟩]; omega) (by rw [HCE.out, if_pos trivial, if_neg (show ¬ 0 < r by omega), if_pos (by omega)]), hw⟩
  · have hb : (x != 0) = true := by simpa using hx
    go_enter Try.func29, Try.ntmps29
    go_wp2_with fail
    refine HD.out.mono ?_
    rintro e w' ⟨rfl, hw⟩
    go_wp2_with fail
    go_ret2
    exact ⟨ret_two (by rw [HCQ.out, if_neg (fun h => hx h.1)]) (by rw [HCE.out, if_neg hx]), hw⟩

def DivPost (a b d : Int) (w : World) (e : Ending) (w' : World) : Prop :=
  ((e = .returned (.tuple #[.int .i64 (a * b / d), .int .i64 (a * b % d), .bool true]) ∧ a * b / d ≤ 1152921504606846976) ∨ (e = .returned (.tuple #[.int .i64 0, .int .i64 0, .bool false]) ∧ 1152921504606846976 < a * b / d)) ∧ w = w'
theorem ret_iib {k k' : IntKind} {a b c d : Int} {u : Bool} (h : a = b) (h' : c = d) : Ending.returned (.tuple #[.int k a, .int k' c, .bool u]) = .returned (.tuple #[.int k b, .int k' d, .bool u]) := by rw [h, h']
set_option maxHeartbeats 2000000 in
theorem refDivide_p (a0 b d : Int) (w : World) (ha0 : 0 ≤ a0) (ha1 : a0 ≤ 1152921504606846976) (hb0 : 0 ≤ b) (hb1 : b ≤ 1152921504606846976) (hd0 : 0 < d) (hd1 : d ≤ 1152921504606846976) :
    Calls Try.prog 102 #[.int .i64 a0, .int .i64 b, .int .i64 d] w (DivPost a0 b d w) := by
  have g1 := Int.ediv_nonneg hb0 (Int.le_of_lt hd0)
  have g2 := Int.ediv_le_self d hb0
  have g3 := Int.emod_nonneg b (show d ≠ 0 by omega)
  have g4 := Int.emod_lt_of_pos b hd0
  have z1 : (d == 0) = false := by simp; omega
  have z2 : (d == -1) = false := by simp; omega
  go_enter Try.func102, Try.ntmps102
  go_wp2
  go_loop [0, 9, 10, 11] (fun ta tq tr tb => ∃ a q r bit : Int, ta = .int .i64 a ∧ tq = .int .i64 q ∧ tr = .int .i64 r ∧ tb = .int .i64 bit ∧ 0 ≤ a ∧ a ≤ 1152921504606846976 ∧ 0 ≤ q ∧ q ≤ 1152921504606846976 ∧ 0 ≤ r ∧ r < d ∧ 0 ≤ bit ∧ bit ≤ 1152921504606846976 ∧ Hid (DvAt a0 b d bit a q r)) (fun _ _ _ tb => (intOf tb).toNat)
  case atStart => exact ⟨a0, 0, 0, 1152921504606846976, rfl, rfl, rfl, rfl, ha0, ha1, by omega, by omega, by omega, by omega, by omega, by omega, DvAt.start ha0 ha1⟩
  case round =>
    obtain ⟨a, q, r, bit, rfl, rfl, rfl, rfl, a0', a1', q0, q1, r0, r1, i0, i1, hD⟩ := hrel
    by_cases hbit : 0 < bit
    · have hst := hD.out.step hd0 hbit
      by_cases c1 : d ≤ 2 * r
      · by_cases c2 : bit ≤ a
        · replace hst := hst.2 c2
          simp only [if_pos c1] at hst
          by_cases c3 : d ≤ 2 * r - d + b % d
          · simp only [if_pos c3] at hst
            have HN := Lib.hid hst
            have hrr := HN.out.r hd0
            obtain ⟨rr0, rr1⟩ := hrr
            clear hst
            by_cases c4 : 1152921504606846976 < 2 * q + 1 + b / d + 1
            · have HB := Lib.hid (HN.out.big hd0 hb0 c4)
              go_wp2
              go_ret3
              exact ⟨.inr ⟨rfl, HB.out⟩, rfl⟩
            · go_wp2
              go_round
              case rel => exact ⟨a - bit, 2 * q + 1 + b / d + 1, 2 * r - d + b % d - d, bit / 2, rfl, rfl, rfl, rfl, by omega, by omega, by omega, by omega, rr0, rr1, by omega, by omega, HN⟩
              case measure => simp [intOf]; omega
          · simp only [if_neg c3, Int.add_zero, Int.sub_zero] at hst
            have HN := Lib.hid hst
            have hrr := HN.out.r hd0
            obtain ⟨rr0, rr1⟩ := hrr
            clear hst
            by_cases c4 : 1152921504606846976 < 2 * q + 1 + b / d
            · have HB := Lib.hid (HN.out.big hd0 hb0 c4)
              go_wp2
              go_ret3
              exact ⟨.inr ⟨rfl, HB.out⟩, rfl⟩
            · go_wp2
              go_round
              case rel => exact ⟨a - bit, 2 * q + 1 + b / d, 2 * r - d + b % d, bit / 2, rfl, rfl, rfl, rfl, by omega, by omega, by omega, by omega, rr0, rr1, by omega, by omega, HN⟩
              case measure => simp [intOf]; omega
        · replace hst := hst.1 (by omega)
          simp only [if_pos c1] at hst
          have HN := Lib.hid hst
          have hrr := HN.out.r hd0
          obtain ⟨rr0, rr1⟩ := hrr
          clear hst
          by_cases c4 : 1152921504606846976 < 2 * q + 1
          · have HB := Lib.hid (HN.out.big hd0 hb0 c4)
            go_wp2
            go_ret3
            exact ⟨.inr ⟨rfl, HB.out⟩, rfl⟩
          · go_wp2
            go_round
            case rel => exact ⟨a, 2 * q + 1, 2 * r - d, bit / 2, rfl, rfl, rfl, rfl, by omega, by omega, by omega, by omega, rr0, rr1, by omega, by omega, HN⟩
            case measure => simp [intOf]; omega
      · by_cases c2 : bit ≤ a
        · replace hst := hst.2 c2
          simp only [if_neg c1, Int.add_zero, Int.sub_zero] at hst
          by_cases c3 : d ≤ 2 * r + b % d
          · simp only [if_pos c3] at hst
            have HN := Lib.hid hst
            have hrr := HN.out.r hd0
            obtain ⟨rr0, rr1⟩ := hrr
            clear hst
            by_cases c4 : 1152921504606846976 < 2 * q + b / d + 1
            · have HB := Lib.hid (HN.out.big hd0 hb0 c4)
              go_wp2
              go_ret3
              exact ⟨.inr ⟨rfl, HB.out⟩, rfl⟩
            · go_wp2
              go_round
              case rel => exact ⟨a - bit, 2 * q + b / d + 1, 2 * r + b % d - d, bit / 2, rfl, rfl, rfl, rfl, by omega, by omega, by omega, by omega, rr0, rr1, by omega, by omega, HN⟩
              case measure => simp [intOf]; omega
          · simp only [if_neg c3, Int.add_zero, Int.sub_zero] at hst
            have HN := Lib.hid hst
            have hrr := HN.out.r hd0
            obtain ⟨rr0, rr1⟩ := hrr
            clear hst
            by_cases c4 : 1152921504606846976 < 2 * q + b / d
            · have HB := Lib.hid (HN.out.big hd0 hb0 c4)
              go_wp2
              go_ret3
              exact ⟨.inr ⟨rfl, HB.out⟩, rfl⟩
            · go_wp2
              go_round
              case rel => exact ⟨a - bit, 2 * q + b / d, 2 * r + b % d, bit / 2, rfl, rfl, rfl, rfl, by omega, by omega, by omega, by omega, rr0, rr1, by omega, by omega, HN⟩
              case measure => simp [intOf]; omega
        · replace hst := hst.1 (by omega)
          simp only [if_neg c1, Int.add_zero, Int.sub_zero] at hst
          have HN := Lib.hid hst
          have hrr := HN.out.r hd0
          obtain ⟨rr0, rr1⟩ := hrr
          clear hst
          by_cases c4 : 1152921504606846976 < 2 * q
          · have HB := Lib.hid (HN.out.big hd0 hb0 c4)
            go_wp2
            go_ret3
            exact ⟨.inr ⟨rfl, HB.out⟩, rfl⟩
          · go_wp2
            go_round
            case rel => exact ⟨a, 2 * q, 2 * r, bit / 2, rfl, rfl, rfl, rfl, by omega, by omega, by omega, by omega, rr0, rr1, by omega, by omega, HN⟩
            case measure => simp [intOf]; omega
    · obtain rfl : bit = 0 := by omega
      have HE := Lib.hid hD.out.done
      go_wp2
      go_ret3
      exact ⟨.inl ⟨ret_iib HE.out.1 HE.out.2, by rw [← HE.out.1]; exact q1⟩, rfl⟩
theorem refDivide_t (a b d : Int) (w : World) (ha0 : 0 ≤ a) (ha1 : a ≤ 1152921504606846976) (hb0 : 0 ≤ b) (hb1 : b ≤ 1152921504606846976) (hd0 : 0 < d) (hd1 : d ≤ 1152921504606846976) (h : a * b / d ≤ 1152921504606846976) :
    Calls Try.prog 102 #[.int .i64 a, .int .i64 b, .int .i64 d] w fun e w' => e = .returned (.tuple #[.int .i64 (a * b / d), .int .i64 (a * b % d), .bool true]) ∧ w = w' :=
  (refDivide_p a b d w ha0 ha1 hb0 hb1 hd0 hd1).mono fun _ _ h' => ⟨by rcases h'.1 with h1 | h1; · exact h1.1
                                                                       · exact absurd h1.2 (by omega), h'.2⟩
theorem refDivide_f (a b d : Int) (w : World) (ha0 : 0 ≤ a) (ha1 : a ≤ 1152921504606846976) (hb0 : 0 ≤ b) (hb1 : b ≤ 1152921504606846976) (hd0 : 0 < d) (hd1 : d ≤ 1152921504606846976) (h : 1152921504606846976 < a * b / d) :
    Calls Try.prog 102 #[.int .i64 a, .int .i64 b, .int .i64 d] w fun e w' => e = .returned (.tuple #[.int .i64 0, .int .i64 0, .bool false]) ∧ w = w' :=
  (refDivide_p a b d w ha0 ha1 hb0 hb1 hd0 hd1).mono fun _ _ h' => ⟨by rcases h'.1 with h1 | h1; · exact absurd h1.2 (by omega)
                                                                       · exact h1.1, h'.2⟩

end Go.Proofs.Ytgbamgijpgjmgaa
/- Contracts of cmp.Compare, cmp.Or, of Compare of package share and of the reference. -/
namespace Go.Proofs.Ytgbamgijpgjmgaa
open Go.RowKit

def cmpI (x y : Int) : Int := if x < y then -1 else if y < x then 1 else 0
def orI (a b : Int) : Int := if a = 0 then b else a
theorem cmpI_range (x y : Int) : -1 ≤ cmpI x y ∧ cmpI x y ≤ 1 := by unfold cmpI; split; · omega
                                                                    split <;> omega

set_option maxHeartbeats 400000 in
theorem cmpU64_c (x y : Int) (w : World) : Calls Try.prog 79 #[.int .u64 x, .int .u64 y] w fun e w' => e = .returned (.int .i64 (cmpI x y)) ∧ w = w' := by
  have n1 : (x != x) = false := by simp
  have n2 : (y != y) = false := by simp
  by_cases h1 : x < y
  · have HC := Lib.hid (show -1 = cmpI x y by simp [cmpI, h1])
    generalize cmpI x y = r at *
    go_enter Try.func79, Try.ntmps79
    go_wp2
    go_ret
    exact ⟨ret_int HC.out, rfl⟩
  · by_cases h2 : y < x
    · have HC := Lib.hid (show 1 = cmpI x y by simp [cmpI, h1, h2])
      generalize cmpI x y = r at *
      go_enter Try.func79, Try.ntmps79
      go_wp2
      go_ret
      exact ⟨ret_int HC.out, rfl⟩
    · have HC := Lib.hid (show 0 = cmpI x y by simp [cmpI, h1, h2])
      generalize cmpI x y = r at *
      go_enter Try.func79, Try.ntmps79
      go_wp2
      go_ret
      exact ⟨ret_int HC.out, rfl⟩
set_option maxHeartbeats 400000 in
theorem cmpI64_c (x y : Int) (w : World) : Calls Try.prog 80 #[.int .i64 x, .int .i64 y] w fun e w' => e = .returned (.int .i64 (cmpI x y)) ∧ w = w' := by
  have n1 : (x != x) = false := by simp
  have n2 : (y != y) = false := by simp
  by_cases h1 : x < y
  · have HC := Lib.hid (show -1 = cmpI x y by simp [cmpI, h1])
    generalize cmpI x y = r at *
    go_enter Try.func80, Try.ntmps80
    go_wp2
    go_ret
    exact ⟨ret_int HC.out, rfl⟩
  · by_cases h2 : y < x
    · have HC := Lib.hid (show 1 = cmpI x y by simp [cmpI, h1, h2])
      generalize cmpI x y = r at *
      go_enter Try.func80, Try.ntmps80
      go_wp2
      go_ret
      exact ⟨ret_int HC.out, rfl⟩
    · have HC := Lib.hid (show 0 = cmpI x y by simp [cmpI, h1, h2])
      generalize cmpI x y = r at *
      go_enter Try.func80, Try.ntmps80
      go_wp2
      go_ret
      exact ⟨ret_int HC.out, rfl⟩
set_option maxHeartbeats 400000 in
theorem cmpOr_c (g : Nat) (a b : Int) (w : World) (h0 : w.cell? ⟨g, 0, none⟩ = some (.int .i64 a)) (h1 : w.cell? ⟨g, 1, none⟩ = some (.int .i64 b)) :
    Calls Try.prog 78 #[.slice (some ⟨g, 0, none⟩) 2 2] w fun e w' => e = .returned (.int .i64 (orI a b)) ∧ w = w' := by
  by_cases ha : a = 0
  · subst ha
    have hne : ((0 : Int) != 0) = false := by simp
    by_cases hb : b = 0
    · subst hb
      go_enter Try.func78, Try.ntmps78
      go_wp2
      refine wp_loop_rounds 3 ?_
      rw [rounds_succ]
      go_wp2
      rw [rounds_succ]
      go_wp2
      rw [rounds_succ]
      go_wp2
      go_ret
      exact ⟨rfl, rfl⟩
    · have hnb : (b != 0) = true := by simpa using hb
      have HR := Lib.hid (show b = orI 0 b by simp [orI])
      generalize orI 0 b = r at *
      go_enter Try.func78, Try.ntmps78
      go_wp2
      refine wp_loop_rounds 2 ?_
      rw [rounds_succ]
      go_wp2
      rw [rounds_succ]
      go_wp2
      go_ret
      exact ⟨ret_int HR.out, rfl⟩
  · have hna : (a != 0) = true := by simpa using ha
    have HR := Lib.hid (show a = orI a b by simp [orI, ha])
    generalize orI a b = r at *
    go_enter Try.func78, Try.ntmps78
    go_wp2
    refine wp_loop_rounds 1 ?_
    rw [rounds_succ]
    go_wp2
    go_ret
    exact ⟨ret_int HR.out, rfl⟩
end Go.Proofs.Ytgbamgijpgjmgaa
/- Contracts of Compare of package share and of the reference. -/
namespace Go.Proofs.Ytgbamgijpgjmgaa
open Go.RowKit

def cmpOk (a b c d : Int) : Bool := okL a && (okL b && (okL c && (okL d && (decide (b ≠ 0) && decide (d ≠ 0)))))
def cmpV (a b c d : Int) : Int := if cmpOk a b c d then cmpF a b c d else 0
def cmpX (a b c d : Int) : Int := if cmpOk a b c d then 0 else 1
theorem cmpOk_iff {a b c d : Int} : cmpOk a b c d = true ↔ (0 ≤ a ∧ a ≤ 1152921504606846976) ∧ (0 < b ∧ b ≤ 1152921504606846976) ∧ (0 ≤ c ∧ c ≤ 1152921504606846976) ∧ 0 < d ∧ d ≤ 1152921504606846976 := by
  simp only [cmpOk, Bool.and_eq_true, okL_iff, decide_eq_true_eq]; omega
theorem or_words (p r : Int) : orI (cmpI (p / 18446744073709551616) (r / 18446744073709551616)) (cmpI (p % 18446744073709551616) (r % 18446744073709551616)) = if p < r then -1 else if p = r then 0 else 1 := by
  rw [← cmpF_words]
  unfold orI cmpI
  by_cases h1 : p / 18446744073709551616 < r / 18446744073709551616
  · simp [h1]
  · by_cases h2 : r / 18446744073709551616 < p / 18446744073709551616
    · rw [if_neg h1, if_neg h1, if_pos h2, if_neg (show ¬ p / 18446744073709551616 = r / 18446744073709551616 by omega), if_neg (by omega)]
    · have he : p / 18446744073709551616 = r / 18446744073709551616 := by omega
      rw [if_neg h1, if_neg h1, if_neg h2, if_pos he, if_pos rfl]
      by_cases h3 : p % 18446744073709551616 < r % 18446744073709551616
      · rw [if_pos h3, if_pos h3]
      · rw [if_neg h3, if_neg h3]
        by_cases h4 : r % 18446744073709551616 < p % 18446744073709551616
        · rw [if_pos h4, if_neg (by omega)]
        · rw [if_neg h4, if_pos (by omega)]

theorem cmpF_cases (a b c d : Int) : cmpF a b c d = -1 ∨ cmpF a b c d = 0 ∨ cmpF a b c d = 1 := by
  unfold cmpF; split
  · exact .inl rfl
  · split
    · exact .inr (.inl rfl)
    · exact .inr (.inr rfl)
end Go.Proofs.Ytgbamgijpgjmgaa
