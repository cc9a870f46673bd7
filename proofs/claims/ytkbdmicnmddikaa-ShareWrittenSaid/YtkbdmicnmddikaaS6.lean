/- Contracts of divide, Part, Ceil of package share and of the reference's Divide, Part, Ceil. -/
import Derived.Test.YtkbdmicnmddikaaS5
namespace Go.Proofs.Ytkbdmicnmddikaa
open Go.RowKit

def divOk (t n d : Int) : Bool := okU t && (okL n && (okL d && decide (d ≠ 0)))
def divFit (t n d : Int) : Bool := decide (t * n / d ≤ 1099511627776)
def divQ (t n d : Int) : Int := if divOk t n d = true ∧ divFit t n d = true then t * n / d else 0
def divR (t n d : Int) : Int := if divOk t n d = true ∧ divFit t n d = true then t * n % d else 0
def divE (t n d : Int) : Int := if divOk t n d then (if divFit t n d then 0 else 5) else 1
def ceilN (t n d : Int) : Int := divQ t n d + (if 0 < divR t n d then 1 else 0)
def ceilQ (t n d : Int) : Int := if divE t n d = 0 ∧ ceilN t n d ≤ 1099511627776 then ceilN t n d else 0
def ceilE (t n d : Int) : Int := if divE t n d = 0 then (if ceilN t n d ≤ 1099511627776 then 0 else 5) else divE t n d
theorem ret_three {k k' k'' : IntKind} {a b c d x y : Int} (h : a = b) (h' : c = d) (h'' : x = y) : Ending.returned (.tuple #[.int k a, .int k' c, .int k'' x]) = .returned (.tuple #[.int k b, .int k' d, .int k'' y]) := by rw [h, h', h'']
theorem mul64_c (x y : Int) (w : World) (hx0 : 0 ≤ x) (hx1 : x ≤ 18446744073709551615) (hy0 : 0 ≤ y) (hy1 : y ≤ 18446744073709551615) :
    Calls Try.prog 43 #[.int .u64 x, .int .u64 y] w fun e w' => e = .returned (.tuple #[.int .u64 (x * y / 18446744073709551616), .int .u64 (x * y % 18446744073709551616)]) ∧ w = w' := by
  obtain ⟨a, rfl⟩ := Int.eq_ofNat_of_zero_le hx0
  obtain ⟨b, rfl⟩ := Int.eq_ofNat_of_zero_le hy0
  refine (Try.bits_Mul64 a b (by omega) (by omega) w).mono ?_
  rintro e w' ⟨rfl, rfl⟩
  exact ⟨ret_two (by simp) (by simp), rfl⟩
theorem divOk_iff {t n d : Int} : divOk t n d = true ↔ (0 ≤ t ∧ t ≤ 1099511627776) ∧ (0 ≤ n ∧ n ≤ 1152921504606846976) ∧ 0 < d ∧ d ≤ 1152921504606846976 := by
  simp only [divOk, Bool.and_eq_true, okU_iff, okL_iff, decide_eq_true_eq]; omega
theorem prod_range {t n : Int} (h0 : 0 ≤ t) (h1 : t ≤ 1152921504606846976) (g0 : 0 ≤ n) (g1 : n ≤ 1152921504606846976) : 0 ≤ t * n ∧ t * n ≤ 1329227995784915872903807060280344576 := by
  refine ⟨Int.mul_nonneg h0 g0, ?_⟩
  have a1 : t * n ≤ 1152921504606846976 * n := Int.mul_le_mul_of_nonneg_right h1 g0
  omega

set_option maxHeartbeats 1000000 in
theorem divide_no (t n d : Int) (w : World) (h : divOk t n d = false) :
    Calls Try.prog 32 #[.int .i64 t, .int .i64 n, .int .i64 d] w fun e w' => e = .returned (.tuple #[.int .u64 0, .int .u64 0, .int .i64 1]) ∧ w = w' := by
  have HH := Lib.hid h
  clear h
  cases h1 : okU t
  · go_enter Try.func32, Try.ntmps32
    go_wp2_with (first | (go_at_call 36; refine (isAmount_c _ _).mono ?_; rintro e w' ⟨rfl, rfl⟩) | (go_at_call 42; refine (isLarge_c _ _).mono ?_; rintro e w' ⟨rfl, rfl⟩))
    go_ret3
    exact ⟨rfl, rfl⟩
  · cases h2 : okL n
    · go_enter Try.func32, Try.ntmps32
      go_wp2_with (first | (go_at_call 36; refine (isAmount_c _ _).mono ?_; rintro e w' ⟨rfl, rfl⟩) | (go_at_call 42; refine (isLarge_c _ _).mono ?_; rintro e w' ⟨rfl, rfl⟩))
      go_ret3
      exact ⟨rfl, rfl⟩
    · cases h3 : okL d
      · go_enter Try.func32, Try.ntmps32
        go_wp2_with (first | (go_at_call 36; refine (isAmount_c _ _).mono ?_; rintro e w' ⟨rfl, rfl⟩) | (go_at_call 42; refine (isLarge_c _ _).mono ?_; rintro e w' ⟨rfl, rfl⟩))
        go_ret3
        exact ⟨rfl, rfl⟩
      · obtain rfl : d = 0 := by
          have := HH.out
          simp only [divOk, h1, h2, h3, Bool.true_and, decide_eq_false_iff_not, ne_eq, Classical.not_not] at this
          exact this
        go_enter Try.func32, Try.ntmps32
        go_wp2_with (first | (go_at_call 36; refine (isAmount_c _ _).mono ?_; rintro e w' ⟨rfl, rfl⟩) | (go_at_call 42; refine (isLarge_c _ _).mono ?_; rintro e w' ⟨rfl, rfl⟩))
        go_ret3
        exact ⟨rfl, rfl⟩

set_option maxHeartbeats 1000000 in
theorem divide_yes (t n d : Int) (w : World) (h : divOk t n d = true) :
    Calls Try.prog 32 #[.int .i64 t, .int .i64 n, .int .i64 d] w fun e w' => e = .returned (.tuple #[.int .u64 (divQ t n d), .int .u64 (divR t n d), .int .i64 (divE t n d)]) ∧ Q w w' := by
  obtain ⟨⟨t0, t1⟩, ⟨n0, n1⟩, d0, d1⟩ := divOk_iff.1 h
  have hOk : divOk t n d = true := h
  clear h
  have e1 : okU t = true := okU_iff.2 ⟨t0, t1⟩
  have e2 : okL n = true := okL_iff.2 ⟨n0, n1⟩
  have e3 : okL d = true := okL_iff.2 ⟨by omega, d1⟩
  have e4 : (d == 0) = false := by simp; omega
  obtain ⟨pr0, pr1⟩ := prod_range t0 (by omega) n0 n1
  have HQ := Lib.hid (show divQ t n d = if t * n / d ≤ 1099511627776 then t * n / d else 0 by simp [divQ, hOk, divFit])
  have HR := Lib.hid (show divR t n d = if t * n / d ≤ 1099511627776 then t * n % d else 0 by simp [divR, hOk, divFit])
  have HE := Lib.hid (show divE t n d = if t * n / d ≤ 1099511627776 then 0 else 5 by simp [divE, hOk, divFit])
  clear hOk
  obtain ⟨p, hp⟩ : ∃ p, t * n = p := ⟨_, rfl⟩
  rw [hp] at HQ HR HE pr0 pr1
  have hp0 : 0 ≤ p / 18446744073709551616 := by omega
  have hp1 : p / 18446744073709551616 ≤ 18446744073709551615 := by omega
  have hp2 : 0 ≤ p % 18446744073709551616 := by omega
  have hp3 : p % 18446744073709551616 ≤ 18446744073709551615 := by omega
  have hdiv := Int.mul_ediv_add_emod p d
  have hm0 := Int.emod_nonneg p (show d ≠ 0 by omega)
  have hm1 := Int.emod_lt_of_pos p d0
  have hq0 := Int.ediv_nonneg pr0 (Int.le_of_lt d0)
  have HDV := Lib.hid hdiv
  clear hdiv
  by_cases hbig : d ≤ p / 18446744073709551616
  · have c1 : decide (d ≤ p / 18446744073709551616) = true := by simpa using hbig
    have hno : ¬ p / d ≤ 1099511627776 := by
      have : (18446744073709551616 : Int) ≤ p / d := by rw [Int.le_ediv_iff_mul_le d0]; omega
      omega
    go_enter Try.func32, Try.ntmps32
    go_wp2_with (first | (go_at_call 36; refine (isAmount_c _ _).mono ?_; rintro e w' ⟨rfl, rfl⟩) | (go_at_call 42; refine (isLarge_c _ _).mono ?_; rintro e w' ⟨rfl, rfl⟩))
    refine (mul64_c t n _ t0 (by omega) n0 (by omega)).mono ?_
    rintro e w' ⟨rfl, rfl⟩
    go_wp2_with fail
    go_ret3
    exact ⟨ret_three (by rw [HQ.out, if_neg (by omega)]) (by rw [HR.out, if_neg (by omega)]) (by rw [HE.out, if_neg (by omega)]), Q.refl _⟩
  · have c1 : decide (d ≤ p / 18446744073709551616) = false := by simpa using hbig
    by_cases hfit : p / d ≤ 1099511627776
    · have c2 : decide (1099511627776 < p / d) = false := by simp; omega
      go_enter Try.func32, Try.ntmps32
      go_wp2_with (first | (go_at_call 36; refine (isAmount_c _ _).mono ?_; rintro e w' ⟨rfl, rfl⟩) | (go_at_call 42; refine (isLarge_c _ _).mono ?_; rintro e w' ⟨rfl, rfl⟩))
      refine (mul64_c t n _ t0 (by omega) n0 (by omega)).mono ?_
      rintro e w' ⟨rfl, rfl⟩
      go_wp2_with fail
      refine (div64_c _ _ d _ hp0 hp2 hp3 (by omega) (by omega)).mono ?_
      rw [show p / 18446744073709551616 * 18446744073709551616 + p % 18446744073709551616 = p by omega]
      rintro e w' ⟨rfl, hw⟩
      go_wp2_with fail
      go_ret3
      exact ⟨ret_three (by rw [HQ.out, if_pos (by omega)]) (by rw [HR.out, if_pos (by omega)]) (by rw [HE.out, if_pos (by omega)]), hw⟩
    · have c2 : decide (1099511627776 < p / d) = true := by simp; omega
      go_enter Try.func32, Try.ntmps32
      go_wp2_with (first | (go_at_call 36; refine (isAmount_c _ _).mono ?_; rintro e w' ⟨rfl, rfl⟩) | (go_at_call 42; refine (isLarge_c _ _).mono ?_; rintro e w' ⟨rfl, rfl⟩))
      refine (mul64_c t n _ t0 (by omega) n0 (by omega)).mono ?_
      rintro e w' ⟨rfl, rfl⟩
      go_wp2_with fail
      refine (div64_c _ _ d _ hp0 hp2 hp3 (by omega) (by omega)).mono ?_
      rw [show p / 18446744073709551616 * 18446744073709551616 + p % 18446744073709551616 = p by omega]
      rintro e w' ⟨rfl, hw⟩
      go_wp2_with fail
      go_ret3
      exact ⟨ret_three (by rw [HQ.out, if_neg (by omega)]) (by rw [HR.out, if_neg (by omega)]) (by rw [HE.out, if_neg (by omega)]), hw⟩
theorem divide_c (t n d : Int) (w : World) :
    Calls Try.prog 32 #[.int .i64 t, .int .i64 n, .int .i64 d] w fun e w' => e = .returned (.tuple #[.int .u64 (divQ t n d), .int .u64 (divR t n d), .int .i64 (divE t n d)]) ∧ Q w w' := by
  cases h : divOk t n d
  · refine (divide_no t n d w h).mono ?_
    rintro e w' ⟨rfl, rfl⟩
    exact ⟨ret_three (by simp [divQ, h]) (by simp [divR, h]) (by simp [divE, h]), Q.refl _⟩
  · exact divide_yes t n d w h
theorem divQ_range (t n d : Int) : 0 ≤ divQ t n d ∧ divQ t n d ≤ 1099511627776 := by
  unfold divQ
  split
  · rename_i h
    obtain ⟨⟨t0, t1⟩, ⟨n0, n1⟩, d0, d1⟩ := divOk_iff.1 h.1
    have := h.2
    simp only [divFit, decide_eq_true_eq] at this
    exact ⟨Int.ediv_nonneg (Int.mul_nonneg t0 n0) (by omega), this⟩
  · omega
theorem divR_range (t n d : Int) : 0 ≤ divR t n d ∧ divR t n d ≤ 1152921504606846976 := by
  unfold divR
  split
  · rename_i h
    obtain ⟨⟨t0, t1⟩, ⟨n0, n1⟩, d0, d1⟩ := divOk_iff.1 h.1
    exact ⟨Int.emod_nonneg _ (by omega), by have := Int.emod_lt_of_pos (t * n) d0; omega⟩
  · omega
theorem divE_range (t n d : Int) : 0 ≤ divE t n d ∧ divE t n d ≤ 5 := by
  unfold divE; split
  · split <;> omega
  · omega

set_option maxHeartbeats 400000 in
theorem part_c (t n d : Int) (w : World) :
    Calls Try.prog 13 #[.int .i64 t, .int .i64 n, .int .i64 d] w fun e w' => e = .returned (.tuple #[.int .i64 (divQ t n d), .int .i64 (divE t n d)]) ∧ Q w w' := by
  obtain ⟨q0, q1⟩ := divQ_range t n d
  have HD := Lib.hid (divide_c t n d w)
  generalize divQ t n d = q at *
  generalize divR t n d = r at *
  generalize divE t n d = x at *
  go_enter Try.func13, Try.ntmps13
  go_wp2_with fail
  refine HD.out.mono ?_
  rintro e w' ⟨rfl, hw⟩
  go_wp2_with fail
  go_ret2
  exact ⟨rfl, hw⟩

set_option maxHeartbeats 400000 in
theorem ceil_c (t n d : Int) (w : World) :
    Calls Try.prog 15 #[.int .i64 t, .int .i64 n, .int .i64 d] w fun e w' => e = .returned (.tuple #[.int .i64 (ceilQ t n d), .int .i64 (ceilE t n d)]) ∧ Q w w' := by
  obtain ⟨q0, q1⟩ := divQ_range t n d
  obtain ⟨r0, r1⟩ := divR_range t n d
  have HD := Lib.hid (divide_c t n d w)
  have HCQ := Lib.hid (show ceilQ t n d = if divE t n d = 0 ∧ divQ t n d + (if 0 < divR t n d then 1 else 0) ≤ 1099511627776 then divQ t n d + (if 0 < divR t n d then 1 else 0) else 0 from rfl)
  have HCE := Lib.hid (show ceilE t n d = if divE t n d = 0 then (if divQ t n d + (if 0 < divR t n d then 1 else 0) ≤ 1099511627776 then 0 else 5) else divE t n d from rfl)
  generalize ceilQ t n d = cq at *
  generalize ceilE t n d = ce at *
  generalize divQ t n d = q at *
  generalize divR t n d = r at *
  generalize divE t n d = x at *
  by_cases hx : x = 0
  · subst hx
    by_cases hr : 0 < r
    · by_cases hb : 1099511627776 < q + 1
      · go_enter Try.func15, Try.ntmps15
        go_wp2_with fail
        refine HD.out.mono ?_
        rintro e w' ⟨rfl, hw⟩
        go_wp2_with fail
        go_ret2
        exact ⟨ret_two (by rw [HCQ.out, if_pos (show 0 < r by omega), if_neg (by omega)]) (by rw [HCE.out, if_pos trivial, if_pos (show 0 < r by omega), if_neg (by omega)]), hw⟩
      · go_enter Try.func15, Try.ntmps15
        go_wp2_with fail
        refine HD.out.mono ?_
        rintro e w' ⟨rfl, hw⟩
        go_wp2_with fail
        go_ret2
        exact ⟨ret_two (by rw [HCQ.out, if_pos (show 0 < r by omega), if_pos ⟨trivial, by omega⟩]) (by rw [HCE.out, if_pos trivial, if_pos (show 0 < r by omega), if_pos (by omega)]), hw⟩
    · go_enter Try.func15, Try.ntmps15
      go_wp2_with fail
      refine HD.out.mono ?_
      rintro e w' ⟨rfl, hw⟩
      go_wp2_with fail
      go_ret2
      exact ⟨ret_two (by rw [HCQ.out, if_neg (show ¬ 0 < r by omega), if_pos ⟨trivial, by omega⟩]; omega) (by rw [HCE.out, if_pos trivial, if_neg (show ¬ 0 < r by omega), if_pos (by omega)]), hw⟩
  · have hb : (x != 0) = true := by simpa using hx
    go_enter Try.func15, Try.ntmps15
    go_wp2_with fail
    refine HD.out.mono ?_
    rintro e w' ⟨rfl, hw⟩
    go_wp2_with fail
    go_ret2
    exact ⟨ret_two (by rw [HCQ.out, if_neg (fun h => hx h.1)]) (by rw [HCE.out, if_neg hx]), hw⟩

def DivPost (a b d : Int) (w : World) (e : Ending) (w' : World) : Prop :=
  ((e = .returned (.tuple #[.int .i64 (a * b / d), .int .i64 (a * b % d), .bool true]) ∧ a * b / d ≤ 1152921504606846976) ∨ (e = .returned (.tuple #[.int .i64 0, .int .i64 0, .bool false]) ∧ 1152921504606846976 < a * b / d)) ∧ w = w'
theorem ret_iib {k k' : IntKind} {a b c d : Int} {u : Bool} (h : a = b) (h' : c = d) : Ending.returned (.tuple #[.int k a, .int k' c, .bool u]) = .returned (.tuple #[.int k b, .int k' d, .bool u]) := by rw [h, h']
set_option maxHeartbeats 2000000 in
theorem refDivide_p (a0 b d : Int) (w : World) (ha0 : 0 ≤ a0) (ha1 : a0 ≤ 1152921504606846976) (hb0 : 0 ≤ b) (hb1 : b ≤ 1152921504606846976) (hd0 : 0 < d) (hd1 : d ≤ 1152921504606846976) :
    Calls Try.prog 35 #[.int .i64 a0, .int .i64 b, .int .i64 d] w (DivPost a0 b d w) := by
  have g1 := Int.ediv_nonneg hb0 (Int.le_of_lt hd0)
  have g2 := Int.ediv_le_self d hb0
  have g3 := Int.emod_nonneg b (show d ≠ 0 by omega)
  have g4 := Int.emod_lt_of_pos b hd0
  have z1 : (d == 0) = false := by simp; omega
  have z2 : (d == -1) = false := by simp; omega
  go_enter Try.func35, Try.ntmps35
  go_wp2
  go_loop [0, 9, 10, 11] (fun ta tq tr tb => ∃ a q r bit : Int, ta = .int .i64 a ∧ tq = .int .i64 q ∧ tr = .int .i64 r ∧ tb = .int .i64 bit ∧ 0 ≤ a ∧ a ≤ 1152921504606846976 ∧ 0 ≤ q ∧ q ≤ 1152921504606846976 ∧ 0 ≤ r ∧ r < d ∧ 0 ≤ bit ∧ bit ≤ 1152921504606846976 ∧ Hid (DvAt a0 b d bit a q r)) (fun _ _ _ tb => (intOf tb).toNat)
  case atStart => exact ⟨a0, 0, 0, 1152921504606846976, rfl, rfl, rfl, rfl, ha0, ha1, by omega, by omega, by omega, by omega, by omega, by omega, DvAt.start ha0 ha1⟩
  case round =>
    obtain ⟨a, q, r, bit, rfl, rfl, rfl, rfl, a0', a1', q0, q1, r0, r1, i0, i1, hD⟩ := hrel
    by_cases hbit : 0 < bit
    · have hst := hD.out.step hd0 hbit
      by_cases c1 : d ≤ 2 * r
      · by_cases c2 : bit ≤ a
        · replace hst := hst.2 c2
          simp only [if_pos c1] at hst
          by_cases c3 : d ≤ 2 * r - d + b % d
          · simp only [if_pos c3] at hst
            have HN := Lib.hid hst
            have hrr := HN.out.r hd0
            obtain ⟨rr0, rr1⟩ := hrr
            clear hst
            by_cases c4 : 1152921504606846976 < 2 * q + 1 + b / d + 1
            · have HB := Lib.hid (HN.out.big hd0 hb0 c4)
              go_wp2
              go_ret3
              exact ⟨.inr ⟨rfl, HB.out⟩, rfl⟩
            · go_wp2
              go_round
              case rel => exact ⟨a - bit, 2 * q + 1 + b / d + 1, 2 * r - d + b % d - d, bit / 2, rfl, rfl, rfl, rfl, by omega, by omega, by omega, by omega, rr0, rr1, by omega, by omega, HN⟩
              case measure => simp [intOf]; omega
          · simp only [if_neg c3, Int.add_zero, Int.sub_zero] at hst
            have HN := Lib.hid hst
            have hrr := HN.out.r hd0
            obtain ⟨rr0, rr1⟩ := hrr
            clear hst
            by_cases c4 : 1152921504606846976 < 2 * q + 1 + b / d
            · have HB := Lib.hid (HN.out.big hd0 hb0 c4)
              go_wp2
              go_ret3
              exact ⟨.inr ⟨rfl, HB.out⟩, rfl⟩
            · go_wp2
              go_round
              case rel => exact ⟨a - bit, 2 * q + 1 + b / d, 2 * r - d + b % d, bit / 2, rfl, rfl, rfl, rfl, by omega, by omega, by omega, by omega, rr0, rr1, by omega, by omega, HN⟩
              case measure => simp [intOf]; omega
        · replace hst := hst.1 (by omega)
          simp only [if_pos c1] at hst
          have HN := Lib.hid hst
          have hrr := HN.out.r hd0
          obtain ⟨rr0, rr1⟩ := hrr
          clear hst
          by_cases c4 : 1152921504606846976 < 2 * q + 1
          · have HB := Lib.hid (HN.out.big hd0 hb0 c4)
            go_wp2
            go_ret3
            exact ⟨.inr ⟨rfl, HB.out⟩, rfl⟩
          · go_wp2
            go_round
            case rel => exact ⟨a, 2 * q + 1, 2 * r - d, bit / 2, rfl, rfl, rfl, rfl, by omega, by omega, by omega, by omega, rr0, rr1, by omega, by omega, HN⟩
            case measure => simp [intOf]; omega
      · by_cases c2 : bit ≤ a
        · replace hst := hst.2 c2
          simp only [if_neg c1, Int.add_zero, Int.sub_zero] at hst
          by_cases c3 : d ≤ 2 * r + b % d
          · simp only [if_pos c3] at hst
            have HN := Lib.hid hst
            have hrr := HN.out.r hd0
            obtain ⟨rr0, rr1⟩ := hrr
            clear hst
            by_cases c4 : 1152921504606846976 < 2 * q + b / d + 1
            · have HB := Lib.hid (HN.out.big hd0 hb0 c4)
              go_wp2
              go_ret3
              exact ⟨.inr ⟨rfl, HB.out⟩, rfl⟩
            · go_wp2
              go_round
              case rel => exact ⟨a - bit, 2 * q + b / d + 1, 2 * r + b % d - d, bit / 2, rfl, rfl, rfl, rfl, by omega, by omega, by omega, by omega, rr0, rr1, by omega, by omega, HN⟩
              case measure => simp [intOf]; omega
          · simp only [if_neg c3, Int.add_zero, Int.sub_zero] at hst
            have HN := Lib.hid hst
            have hrr := HN.out.r hd0
            obtain ⟨rr0, rr1⟩ := hrr
            clear hst
            by_cases c4 : 1152921504606846976 < 2 * q + b / d
            · have HB := Lib.hid (HN.out.big hd0 hb0 c4)
              go_wp2
              go_ret3
              exact ⟨.inr ⟨rfl, HB.out⟩, rfl⟩
            · go_wp2
              go_round
              case rel => exact ⟨a - bit, 2 * q + b / d, 2 * r + b % d, bit / 2, rfl, rfl, rfl, rfl, by omega, by omega, by omega, by omega, rr0, rr1, by omega, by omega, HN⟩
              case measure => simp [intOf]; omega
        · replace hst := hst.1 (by omega)
          simp only [if_neg c1, Int.add_zero, Int.sub_zero] at hst
          have HN := Lib.hid hst
          have hrr := HN.out.r hd0
          obtain ⟨rr0, rr1⟩ := hrr
          clear hst
          by_cases c4 : 1152921504606846976 < 2 * q
          · have HB := Lib.hid (HN.out.big hd0 hb0 c4)
            go_wp2
            go_ret3
            exact ⟨.inr ⟨rfl, HB.out⟩, rfl⟩
          · go_wp2
            go_round
            case rel => exact ⟨a, 2 * q, 2 * r, bit / 2, rfl, rfl, rfl, rfl, by omega, by omega, by omega, by omega, rr0, rr1, by omega, by omega, HN⟩
            case measure => simp [intOf]; omega
    · obtain rfl : bit = 0 := by omega
      have HE := Lib.hid hD.out.done
      go_wp2
      go_ret3
      exact ⟨.inl ⟨ret_iib HE.out.1 HE.out.2, by rw [← HE.out.1]; exact q1⟩, rfl⟩
theorem refDivide_t (a b d : Int) (w : World) (ha0 : 0 ≤ a) (ha1 : a ≤ 1152921504606846976) (hb0 : 0 ≤ b) (hb1 : b ≤ 1152921504606846976) (hd0 : 0 < d) (hd1 : d ≤ 1152921504606846976) (h : a * b / d ≤ 1152921504606846976) :
    Calls Try.prog 35 #[.int .i64 a, .int .i64 b, .int .i64 d] w fun e w' => e = .returned (.tuple #[.int .i64 (a * b / d), .int .i64 (a * b % d), .bool true]) ∧ w = w' :=
  (refDivide_p a b d w ha0 ha1 hb0 hb1 hd0 hd1).mono fun _ _ h' => ⟨by rcases h'.1 with h1 | h1; · exact h1.1
                                                                       · exact absurd h1.2 (by omega), h'.2⟩
theorem refDivide_f (a b d : Int) (w : World) (ha0 : 0 ≤ a) (ha1 : a ≤ 1152921504606846976) (hb0 : 0 ≤ b) (hb1 : b ≤ 1152921504606846976) (hd0 : 0 < d) (hd1 : d ≤ 1152921504606846976) (h : 1152921504606846976 < a * b / d) :
    Calls Try.prog 35 #[.int .i64 a, .int .i64 b, .int .i64 d] w fun e w' => e = .returned (.tuple #[.int .i64 0, .int .i64 0, .bool false]) ∧ w = w' :=
  (refDivide_p a b d w ha0 ha1 hb0 hb1 hd0 hd1).mono fun _ _ h' => ⟨by rcases h'.1 with h1 | h1; · exact absurd h1.2 (by omega)
                                                                       · exact h1.1, h'.2⟩

set_option maxHeartbeats 1000000 in
theorem refPart_c (t n d : Int) (w : World) :
    Calls Try.prog 14 #[.int .i64 t, .int .i64 n, .int .i64 d] w fun e w' => e = .returned (.tuple #[.int .i64 (divQ t n d), .int .i64 (divE t n d)]) ∧ w = w' := by
  cases h : divOk t n d
  · have HQ := Lib.hid (show (0 : Int) = divQ t n d by simp [divQ, h])
    have HE := Lib.hid (show (1 : Int) = divE t n d by simp [divE, h])
    have HH := Lib.hid h
    clear h
    cases h1 : okU t
    · go_enter Try.func14, Try.ntmps14
      go_wp2_with (first | (go_at_call 33; refine (refAmount_c _ _).mono ?_; rintro e w' ⟨rfl, rfl⟩) | (go_at_call 34; refine (refLarge_c _ _).mono ?_; rintro e w' ⟨rfl, rfl⟩))
      go_ret2
      exact ⟨ret_two HQ.out HE.out, rfl⟩
    · cases h2 : okL n
      · go_enter Try.func14, Try.ntmps14
        go_wp2_with (first | (go_at_call 33; refine (refAmount_c _ _).mono ?_; rintro e w' ⟨rfl, rfl⟩) | (go_at_call 34; refine (refLarge_c _ _).mono ?_; rintro e w' ⟨rfl, rfl⟩))
        go_ret2
        exact ⟨ret_two HQ.out HE.out, rfl⟩
      · cases h3 : okL d
        · go_enter Try.func14, Try.ntmps14
          go_wp2_with (first | (go_at_call 33; refine (refAmount_c _ _).mono ?_; rintro e w' ⟨rfl, rfl⟩) | (go_at_call 34; refine (refLarge_c _ _).mono ?_; rintro e w' ⟨rfl, rfl⟩))
          go_ret2
          exact ⟨ret_two HQ.out HE.out, rfl⟩
        · obtain rfl : d = 0 := by
            have := HH.out
            simp only [divOk, h1, h2, h3, Bool.true_and, decide_eq_false_iff_not, ne_eq, Classical.not_not] at this
            exact this
          go_enter Try.func14, Try.ntmps14
          go_wp2_with (first | (go_at_call 33; refine (refAmount_c _ _).mono ?_; rintro e w' ⟨rfl, rfl⟩) | (go_at_call 34; refine (refLarge_c _ _).mono ?_; rintro e w' ⟨rfl, rfl⟩))
          go_ret2
          exact ⟨ret_two HQ.out HE.out, rfl⟩
  · obtain ⟨⟨t0, t1⟩, ⟨n0, n1⟩, d0, d1⟩ := divOk_iff.1 h
    have e1 : okU t = true := okU_iff.2 ⟨t0, t1⟩
    have e2 : okL n = true := okL_iff.2 ⟨n0, n1⟩
    have e3 : okL d = true := okL_iff.2 ⟨by omega, d1⟩
    have e4 : (d == 0) = false := by simp; omega
    have HQ := Lib.hid (show divQ t n d = if t * n / d ≤ 1099511627776 then t * n / d else 0 by simp [divQ, h, divFit])
    have HE := Lib.hid (show divE t n d = if t * n / d ≤ 1099511627776 then 0 else 5 by simp [divE, h, divFit])
    clear h
    by_cases hbig : 1152921504606846976 < t * n / d
    · have HD := Lib.hid (refDivide_f t n d w t0 (by omega) n0 n1 d0 d1 hbig)
      generalize t * n / d = q at *
      go_enter Try.func14, Try.ntmps14
      go_wp2_with (first | (go_at_call 33; refine (refAmount_c _ _).mono ?_; rintro e w' ⟨rfl, rfl⟩) | (go_at_call 34; refine (refLarge_c _ _).mono ?_; rintro e w' ⟨rfl, rfl⟩))
      refine HD.out.mono ?_
      rintro e w' ⟨rfl, rfl⟩
      go_wp2_with fail
      go_ret2
      exact ⟨ret_two (by rw [HQ.out, if_neg (by omega)]) (by rw [HE.out, if_neg (by omega)]), rfl⟩
    · have HD := Lib.hid (refDivide_t t n d w t0 (by omega) n0 n1 d0 d1 (by omega))
      have hq0 := Int.ediv_nonneg (Int.mul_nonneg t0 n0) (Int.le_of_lt d0)
      generalize t * n / d = q at *
      generalize t * n % d = r at *
      by_cases hfit : 1099511627776 < q
      · have c2 : decide (1099511627776 < q) = true := by simpa using hfit
        go_enter Try.func14, Try.ntmps14
        go_wp2_with (first | (go_at_call 33; refine (refAmount_c _ _).mono ?_; rintro e w' ⟨rfl, rfl⟩) | (go_at_call 34; refine (refLarge_c _ _).mono ?_; rintro e w' ⟨rfl, rfl⟩))
        refine HD.out.mono ?_
        rintro e w' ⟨rfl, rfl⟩
        go_wp2_with fail
        go_ret2
        exact ⟨ret_two (by rw [HQ.out, if_neg (by omega)]) (by rw [HE.out, if_neg (by omega)]), rfl⟩
      · have c2 : decide (1099511627776 < q) = false := by simpa using hfit
        go_enter Try.func14, Try.ntmps14
        go_wp2_with (first | (go_at_call 33; refine (refAmount_c _ _).mono ?_; rintro e w' ⟨rfl, rfl⟩) | (go_at_call 34; refine (refLarge_c _ _).mono ?_; rintro e w' ⟨rfl, rfl⟩))
        refine HD.out.mono ?_
        rintro e w' ⟨rfl, rfl⟩
        go_wp2_with fail
        go_ret2
        exact ⟨ret_two (by rw [HQ.out, if_pos (by omega)]) (by rw [HE.out, if_pos (by omega)]), rfl⟩
set_option maxHeartbeats 1000000 in
theorem refCeil_c (t n d : Int) (w : World) :
    Calls Try.prog 16 #[.int .i64 t, .int .i64 n, .int .i64 d] w fun e w' => e = .returned (.tuple #[.int .i64 (ceilQ t n d), .int .i64 (ceilE t n d)]) ∧ w = w' := by
  obtain ⟨q0, q1⟩ := divQ_range t n d
  obtain ⟨r0, r1⟩ := divR_range t n d
  have HD := Lib.hid (refPart_c t n d w)
  have HCQ := Lib.hid (show ceilQ t n d = if divE t n d = 0 ∧ divQ t n d + (if 0 < divR t n d then 1 else 0) ≤ 1099511627776 then divQ t n d + (if 0 < divR t n d then 1 else 0) else 0 from rfl)
  have HCE := Lib.hid (show ceilE t n d = if divE t n d = 0 then (if divQ t n d + (if 0 < divR t n d then 1 else 0) ≤ 1099511627776 then 0 else 5) else divE t n d from rfl)
  generalize ceilQ t n d = cq at *
  generalize ceilE t n d = ce at *
  by_cases hx : divE t n d = 0
  · have hok : divOk t n d = true := by
      cases h : divOk t n d
      · simp [divE, h] at hx
      · rfl
    have hfit : divFit t n d = true := by
      cases h : divFit t n d
      · simp [divE, h, hok] at hx
      · rfl
    have hq : divQ t n d = t * n / d := by simp [divQ, hok, hfit]
    have hr : divR t n d = t * n % d := by simp [divR, hok, hfit]
    obtain ⟨⟨t0, t1⟩, ⟨n0, n1⟩, d0, d1⟩ := divOk_iff.1 hok
    have HV := Lib.hid (refDivide_t t n d w t0 (by omega) n0 n1 d0 d1 (by rw [← hq]; omega))
    rw [← hq, ← hr] at HV
    clear hok hfit hq hr
    generalize divQ t n d = q at *
    generalize divR t n d = r at *
    generalize divE t n d = x at *
    subst hx
    by_cases hr : 0 < r
    · by_cases hb : 1099511627776 < q + 1
      · go_enter Try.func16, Try.ntmps16
        go_wp2_with fail
        refine HD.out.mono ?_
        rintro e w' ⟨rfl, rfl⟩
        go_wp2_with fail
        refine HV.out.mono ?_
        rintro e w' ⟨rfl, rfl⟩
        go_wp2_with fail
        go_ret2
        exact ⟨ret_two (by rw [HCQ.out, if_pos (show 0 < r by omega), if_neg (by omega)]) (by rw [HCE.out, if_pos trivial, if_pos (show 0 < r by omega), if_neg (by omega)]), rfl⟩
      · go_enter Try.func16, Try.ntmps16
        go_wp2_with fail
        refine HD.out.mono ?_
        rintro e w' ⟨rfl, rfl⟩
        go_wp2_with fail
        refine HV.out.mono ?_
        rintro e w' ⟨rfl, rfl⟩
        go_wp2_with fail
        go_ret2
        exact ⟨ret_two (by rw [HCQ.out, if_pos (show 0 < r by omega), if_pos ⟨trivial, by omega⟩]) (by rw [HCE.out, if_pos trivial, if_pos (show 0 < r by omega), if_pos (by omega)]), rfl⟩
    · go_enter Try.func16, Try.ntmps16
      go_wp2_with fail
      refine HD.out.mono ?_
      rintro e w' ⟨rfl, rfl⟩
      go_wp2_with fail
      refine HV.out.mono ?_
      rintro e w' ⟨rfl, rfl⟩
      go_wp2_with fail
      go_ret2
      exact ⟨ret_two (by rw [HCQ.out, if_neg (show ¬ 0 < r by omega), if_pos ⟨trivial, by omega⟩]; omega) (by rw [HCE.out, if_pos trivial, if_neg (show ¬ 0 < r by omega), if_pos (by omega)]), rfl⟩
  · generalize divQ t n d = q at *
    generalize divR t n d = r at *
    generalize divE t n d = x at *
    have hb : (x != 0) = true := by simpa using hx
    go_enter Try.func16, Try.ntmps16
    go_wp2_with fail
    refine HD.out.mono ?_
    rintro e w' ⟨rfl, rfl⟩
    go_wp2_with fail
    go_ret2
    exact ⟨ret_two (by rw [HCQ.out, if_neg (fun h => hx h.1)]) (by rw [HCE.out, if_neg hx]), rfl⟩
end Go.Proofs.Ytkbdmicnmddikaa
