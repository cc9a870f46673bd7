
/- Contracts of divide, Part, Ceil of package share and of the reference's Divide, Part, Ceil. -/
import Derived.Test.YtbpfdogjjoceaaaS5
namespace Go.Proofs.Ytbpfdogjjoceaaa
open Go.RowKit

def divOk (t n d : Int) : Bool := okU t && (okL n && (okL d && decide (d ≠ 0)))
def divFit (t n d : Int) : Bool := decide (t * n / d ≤ 1099511627776)
def divQ (t n d : Int) : Int := if divOk t n d = true ∧ divFit t n d = true then t * n / d else 0
def divR (t n d : Int) : Int := if divOk t n d = true ∧ divFit t n d = true then t * n % d else 0
def divE (t n d : Int) : Int := if divOk t n d then (if divFit t n d then 0 else 5) else 1
def ceilN (t n d : Int) : Int := divQ t n d + (if 0 < divR t n d then 1 else 0)
def ceilQ (t n d : Int) : Int := if divE t n d = 0 ∧ ceilN t n d ≤ 1099511627776 then ceilN t n d else 0
def ceilE (t n d : Int) : Int := if divE t n d = 0 then (if ceilN t n d ≤ 1099511627776 then 0 else 5) else divE t n d
theorem ret_three {k k' k'' : IntKind} {a b c d x y : Int} (h : a = b) (h' : c = d) (h'' : x = y) : Ending.returned (.tuple #[.int k a, .int k' c, .int k'' x]) = .returned (.tuple #[.int k b, .int k' d, .int k'' y]) := by rw [h, h', h'']
theorem mul64_c (x y : Int) (w : World) (hx0 : 0 ≤ x) (hx1 : x ≤ 18446744073709551615) (hy0 : 0 ≤ y) (hy1 : y ≤ 18446744073709551615) :
    Calls Try.prog 83 #[.int .u64 x, .int .u64 y] w fun e w' => e = .returned (.tuple #[.int .u64 (x * y / 18446744073709551616), .int .u64 (x * y % 18446744073709551616)]) ∧ w = w' := by
  obtain ⟨a, rfl⟩ := Int.eq_ofNat_of_zero_le hx0
  obtain ⟨b, rfl⟩ := Int.eq_ofNat_of_zero_le hy0
  refine (Try.bits_Mul64 a b (by omega) (by omega) w).mono ?_
  rintro e w' ⟨rfl, rfl⟩
  exact ⟨ret_two (by simp) (by simp), rfl⟩
theorem divOk_iff {t n d : Int} : divOk t n d = true ↔ (0 ≤ t ∧ t ≤ 1099511627776) ∧ (0 ≤ n ∧ n ≤ 1152921504606846976) ∧ 0 < d ∧ d ≤ 1152921504606846976 := by
  simp only [divOk, Bool.and_eq_true, okU_iff, okL_iff, decide_eq_true_eq]; omega
theorem prod_range {t n : Int} (h0 : 0 ≤ t) (h1 : t ≤ 1152921504606846976) (g0 : 0 ≤ n) (g1 : n ≤ 1152921504606846976) : 0 ≤ t * n ∧ t * n ≤ 1329227995784915872903807060280344576 := by
  refine ⟨Int.mul_nonneg h0 g0, ?_⟩
  have a1 : t * n ≤ 1152921504606846976 * n := Int.mul_le_mul_of_nonneg_right h1 g0
  omega

set_option maxHeartbeats 1000000 in
theorem divide_no (t n d : Int) (w : World) (h : divOk t n d = false) :
    Calls Try.prog 67 #[.int .i64 t, .int .i64 n, .int .i64 d] w fun e w' => e = .returned (.tuple #[.int .u64 0, .int .u64 0, .int .i64 1]) ∧ w = w' := by
  have HH := Lib.hid h
  clear h
  cases h1 : okU t
  · go_enter Try.func67, Try.ntmps67
    go_wp2_with (first | (go_at_call 66; refine (isAmount_c _ _).mono ?_; rintro e w' ⟨rfl, rfl⟩) | (go_at_call 82; refine (isLarge_c _ _).mono ?_; rintro e w' ⟨rfl, rfl⟩))
    go_ret3
    exact ⟨rfl, rfl⟩
  · cases h2 : okL n
    · go_enter Try.func67, Try.ntmps67
      go_wp2_with (first | (go_at_call 66; refine (isAmount_c _ _).mono ?_; rintro e w' ⟨rfl, rfl⟩) | (go_at_call 82; refine (isLarge_c _ _).mono ?_; rintro e w' ⟨rfl, rfl⟩))
      go_ret3
      exact ⟨rfl, rfl⟩
    · cases h3 : okL d
      · go_enter Try.func67, Try.ntmps67
        go_wp2_with (first | (go_at_call 66; refine (isAmount_c _ _).mono ?_; rintro e w' ⟨rfl, rfl⟩) | (go_at_call 82; refine (isLarge_c _ _).mono ?_; rintro e w' ⟨rfl, rfl⟩))
        go_ret3
        exact ⟨rfl, rfl⟩
      · obtain rfl : d = 0 := by
          have := HH.out
          simp only [divOk, h1, h2, h3, Bool.true_and, decide_eq_false_iff_not, ne_eq, Classical.not_not] at this
          exact this
        go_enter Try.func67, Try.ntmps67
        go_wp2_with (first | (go_at_call 66; refine (isAmount_c _ _).mono ?_; rintro e w' ⟨rfl, rfl⟩) | (go_at_call 82; refine (isLarge_c _ _).mono ?_; rintro e w' ⟨rfl, rfl⟩))
        go_ret3
        exact ⟨rfl, rfl⟩

set_option maxHeartbeats 1000000 in
theorem divide_yes (t n d : Int) (w : World) (h : divOk t n d = true) :
    Calls Try.prog 67 #[.int .i64 t, .int .i64 n, .int .i64 d] w fun e w' => e = .returned (.tuple #[.int .u64 (divQ t n d), .int .u64 (divR t n d), .int .i64 (divE t n d)]) ∧ Q w w' := by
  obtain ⟨⟨t0, t1⟩, ⟨n0, n1⟩, d0, d1⟩ := divOk_iff.1 h
  have hOk : divOk t n d = true := h
  clear h
  have e1 : okU t = true := okU_iff.2 ⟨t0, t1⟩
  have e2 : okL n = true := okL_iff.2 ⟨n0, n1⟩
  have e3 : okL d = true := okL_iff.2 ⟨by omega, d1⟩
  have e4 : (d == 0) = false := by simp; omega
  obtain ⟨pr0, pr1⟩ := prod_range t0 (by omega) n0 n1
  have HQ := Lib.hid (show divQ t n d = if t * n / d ≤ 1099511627776 then t * n / d else 0 by simp [divQ, hOk, divFit])
  have HR := Lib.hid (show divR t n d = if t * n / d ≤ 1099511627776 then t * n % d else 0 by simp [divR, hOk, divFit])
  have HE := Lib.hid (show divE t n d = if t * n / d ≤ 1099511627776 then 0 else 5 by simp [divE, hOk, divFit])
  clear hOk
  obtain ⟨p, hp⟩ : ∃ p, t * n = p := ⟨_, rfl⟩
  rw [hp] at HQ HR HE pr0 pr1
  have hp0 : 0 ≤ p / 18446744073709551616 := by omega
  have hp1 : p / 18446744073709551616 ≤ 18446744073709551615 := by omega
  have hp2 : 0 ≤ p % 18446744073709551616 := by omega
  have hp3 : p % 18446744073709551616 ≤ 18446744073709551615 := by omega
  have hdiv := Int.mul_ediv_add_emod p d
  have hm0 := Int.emod_nonneg p (show d ≠ 0 by omega)
  have hm1 := Int.emod_lt_of_pos p d0
  have hq0 := Int.ediv_nonneg pr0 (Int.le_of_lt d0)
  have HDV := Lib.hid hdiv
  clear hdiv
  by_cases hbig : d ≤ p / 18446744073709551616
  · have c1 : decide (d ≤ p / 18446744073709551616) = true := by simpa using hbig
    have hno : ¬ p / d ≤ 1099511627776 := by
      have : (18446744073709551616 : Int) ≤ p / d := by rw [Int.le_ediv_iff_mul_le d0]; omega
      omega
    go_enter Try.func67, Try.ntmps67
    go_wp2_with (first | (go_at_call 66; refine (isAmount_c _ _).mono ?_; rintro e w' ⟨rfl, rfl⟩) | (go_at_call 82; refine (isLarge_c _ _).mono ?_; rintro e w' ⟨rfl, rfl⟩))
    refine (mul64_c t n _ t0 (by omega) n0 (by omega)).mono ?_
    rintro e w' ⟨rfl, rfl⟩
    go_wp2_with fail
    go_ret3
    exact ⟨ret_three (by rw [HQ.out, if_neg (by omega)]) (by rw [HR.out, if_neg (by omega)]) (by rw [HE.out, if_neg (by omega)]), Q.refl _⟩
  · have c1 : decide (d ≤ p / 18446744073709551616) = false := by simpa using hbig
    by_cases hfit : p / d ≤ 1099511627776
    · have c2 : decide (1099511627776 < p / d) = false := by simp; omega
      go_enter Try.func67, Try.ntmps67
      go_wp2_with (first | (go_at_call 66; refine (isAmount_c _ _).mono ?_; rintro e w' ⟨rfl, rfl⟩) | (go_at_call 82; refine (isLarge_c _ _).mono ?_; rintro e w' ⟨rfl, rfl⟩))
      refine (mul64_c t n _ t0 (by omega) n0 (by omega)).mono ?_
      rintro e w' ⟨rfl, rfl⟩
      go_wp2_with fail
      refine (div64_c _ _ d _ hp0 hp2 hp3 (by omega) (by omega)).mono ?_
      rw [show p / 18446744073709551616 * 18446744073709551616 + p % 18446744073709551616 = p by omega]
      rintro e w' ⟨rfl, hw⟩
      go_wp2_with fail
      go_ret3
      exact ⟨ret_three (by rw [HQ.out, if_pos (by omega)]) (by rw [HR.out, if_pos (by omega)]) (by rw [HE.out, if_pos (by omega)]), hw⟩
    · have c2 : decide (1099511627776 < p / d) = true := by simp; omega
      go_enter Try.func67, Try.ntmps67
      go_wp2_with (first | (go_at_call 66; refine (isAmount_c _ _).mono ?_; rintro e w' ⟨rfl, rfl⟩) | (go_at_call 82; refine (isLarge_c _ _).mono ?_; rintro e w' ⟨rfl, rfl⟩))
      refine (mul64_c t n _ t0 (by omega) n0 (by omega)).mono ?_
      rintro e w' ⟨rfl, rfl⟩
      go_wp2_with fail
      refine (div64_c _ _ d _ hp0 hp2 hp3 (by omega) (by omega)).mono ?_
      rw [show p / 18446744073709551616 * 18446744073709551616 + p % 18446744073709551616 = p by omega]
      rintro e w' ⟨rfl, hw⟩
      go_wp2_with fail
      go_ret3
      exact ⟨ret_three (by rw [HQ.out, if_neg (by omega)]) (by rw [HR.out, if_neg (by omega)]) (by rw [HE.out, if_neg (by omega)]), hw⟩
theorem divide_c (t n d : Int) (w : World) :
    Calls Try.prog 67 #[.int .i64 t, .int .i64 n, .int .i64 d] w fun e w' => e = .returned (.tuple #[.int .u64 (divQ t n d), .int .u64 (divR t n d), .int .i64 (divE t n d)]) ∧ Q w w' := by
  cases h : divOk t n d
  · refine (divide_no t n d w h).mono ?_
    rintro e w' ⟨rfl, rfl⟩
    exact ⟨ret_three (by simp [divQ, h]) (by simp [divR, h]) (by simp [divE, h]), Q.refl _⟩
  · exact divide_yes t n d w h
theorem divQ_range (t n d : Int) : 0 ≤ divQ t n d ∧ divQ t n d ≤ 1099511627776 := by
  unfold divQ
  split
  · rename_i h
    obtain ⟨⟨t0, t1⟩, ⟨n0, n1⟩, d0, d1⟩ := divOk_iff.1 h.1
    have := h.2
    simp only [divFit, decide_eq_true_eq] at this
    exact ⟨Int.ediv_nonneg (Int.mul_nonneg t0 n0) (by omega), this⟩
  · omega
theorem divR_range (t n d : Int) : 0 ≤ divR t n d ∧ divR t n d ≤ 1152921504606846976 := by
  unfold divR
  split
  · rename_i h
    obtain ⟨⟨t0, t1⟩, ⟨n0, n1⟩, d0, d1⟩ := divOk_iff.1 h.1
    exact ⟨Int.emod_nonneg _ (by omega), by have := Int.emod_lt_of_pos (t * n) d0; omega⟩
  · omega
theorem divE_range (t n d : Int) : 0 ≤ divE t n d ∧ divE t n d ≤ 5 := by
  unfold divE; split
  · split <;> omega
  · omega

def DivPost (a b d : Int) (w : World) (e : Ending) (w' : World) : Prop :=
  ((e = .returned (.tuple #[.int .i64 (a * b / d), .int .i64 (a * b % d), .bool true]) ∧ a * b / d ≤ 1152921504606846976) ∨ (e = .returned (.tuple #[.int .i64 0, .int .i64 0, .bool false]) ∧ 1152921504606846976 < a * b / d)) ∧ w = w'
theorem ret_iib {k k' : IntKind} {a b c d : Int} {u : Bool} (h : a = b) (h' : c = d) : Ending.returned (.tuple #[.int k a, .int k' c, .bool u]) = .returned (.tuple #[.int k b, .int k' d, .bool u]) := by rw [h, h']
end Go.Proofs.Ytbpfdogjjoceaaa
