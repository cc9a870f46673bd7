/- Contracts of Compare of package share and of the reference. -/
import Derived.Test.YtkbdmicnmddikaaS7
namespace Go.Proofs.Ytkbdmicnmddikaa
open Go.RowKit

def cmpOk (a b c d : Int) : Bool := okL a && (okL b && (okL c && (okL d && (decide (b ≠ 0) && decide (d ≠ 0)))))
def cmpV (a b c d : Int) : Int := if cmpOk a b c d then cmpF a b c d else 0
def cmpX (a b c d : Int) : Int := if cmpOk a b c d then 0 else 1
theorem cmpOk_iff {a b c d : Int} : cmpOk a b c d = true ↔ (0 ≤ a ∧ a ≤ 1152921504606846976) ∧ (0 < b ∧ b ≤ 1152921504606846976) ∧ (0 ≤ c ∧ c ≤ 1152921504606846976) ∧ 0 < d ∧ d ≤ 1152921504606846976 := by
  simp only [cmpOk, Bool.and_eq_true, okL_iff, decide_eq_true_eq]; omega
theorem or_words (p r : Int) : orI (cmpI (p / 18446744073709551616) (r / 18446744073709551616)) (cmpI (p % 18446744073709551616) (r % 18446744073709551616)) = if p < r then -1 else if p = r then 0 else 1 := by
  rw [← cmpF_words]
  unfold orI cmpI
  by_cases h1 : p / 18446744073709551616 < r / 18446744073709551616
  · simp [h1]
  · by_cases h2 : r / 18446744073709551616 < p / 18446744073709551616
    · rw [if_neg h1, if_neg h1, if_pos h2, if_neg (show ¬ p / 18446744073709551616 = r / 18446744073709551616 by omega), if_neg (by omega)]
    · have he : p / 18446744073709551616 = r / 18446744073709551616 := by omega
      rw [if_neg h1, if_neg h1, if_neg h2, if_pos he, if_pos rfl]
      by_cases h3 : p % 18446744073709551616 < r % 18446744073709551616
      · rw [if_pos h3, if_pos h3]
      · rw [if_neg h3, if_neg h3]
        by_cases h4 : r % 18446744073709551616 < p % 18446744073709551616
        · rw [if_pos h4, if_neg (by omega)]
        · rw [if_neg h4, if_pos (by omega)]

set_option maxHeartbeats 1000000 in
theorem compare_no (a b c d : Int) (w : World) (h : cmpOk a b c d = false) :
    Calls Try.prog 24 #[.int .i64 a, .int .i64 b, .int .i64 c, .int .i64 d] w fun e w' => e = .returned (.tuple #[.int .i64 0, .int .i64 1]) ∧ w = w' := by
  have HH := Lib.hid h
  clear h
  cases h0 : okL a
  · go_enter Try.func24, Try.ntmps24
    go_wp2_with (go_at_call 42; refine (isLarge_c _ _).mono ?_; rintro e w' ⟨rfl, rfl⟩)
    go_ret2
    exact ⟨rfl, rfl⟩
  ·
    cases h1 : okL b
    · go_enter Try.func24, Try.ntmps24
      go_wp2_with (go_at_call 42; refine (isLarge_c _ _).mono ?_; rintro e w' ⟨rfl, rfl⟩)
      go_ret2
      exact ⟨rfl, rfl⟩
    ·
      cases h2 : okL c
      · go_enter Try.func24, Try.ntmps24
        go_wp2_with (go_at_call 42; refine (isLarge_c _ _).mono ?_; rintro e w' ⟨rfl, rfl⟩)
        go_ret2
        exact ⟨rfl, rfl⟩
      ·
        cases h3 : okL d
        · go_enter Try.func24, Try.ntmps24
          go_wp2_with (go_at_call 42; refine (isLarge_c _ _).mono ?_; rintro e w' ⟨rfl, rfl⟩)
          go_ret2
          exact ⟨rfl, rfl⟩
        ·
          by_cases hb : b = 0
          · subst hb
            go_enter Try.func24, Try.ntmps24
            go_wp2_with (go_at_call 42; refine (isLarge_c _ _).mono ?_; rintro e w' ⟨rfl, rfl⟩)
            go_ret2
            exact ⟨rfl, rfl⟩
          · have hb0 : (b == 0) = false := by simpa using hb
            obtain rfl : d = 0 := by
              have := HH.out
              simp only [cmpOk, h0, h1, h2, h3, Bool.true_and, ne_eq, hb, not_false_eq_true, decide_true, decide_eq_false_iff_not, Classical.not_not] at this
              exact this
            go_enter Try.func24, Try.ntmps24
            go_wp2_with (go_at_call 42; refine (isLarge_c _ _).mono ?_; rintro e w' ⟨rfl, rfl⟩)
            go_ret2
            exact ⟨rfl, rfl⟩
set_option maxHeartbeats 1000000 in
theorem refCompare_no (a b c d : Int) (w : World) (h : cmpOk a b c d = false) :
    Calls Try.prog 25 #[.int .i64 a, .int .i64 b, .int .i64 c, .int .i64 d] w fun e w' => e = .returned (.tuple #[.int .i64 0, .int .i64 1]) ∧ w = w' := by
  have HH := Lib.hid h
  clear h
  cases h0 : okL a
  · go_enter Try.func25, Try.ntmps25
    go_wp2_with (go_at_call 34; refine (refLarge_c _ _).mono ?_; rintro e w' ⟨rfl, rfl⟩)
    go_ret2
    exact ⟨rfl, rfl⟩
  ·
    cases h1 : okL b
    · go_enter Try.func25, Try.ntmps25
      go_wp2_with (go_at_call 34; refine (refLarge_c _ _).mono ?_; rintro e w' ⟨rfl, rfl⟩)
      go_ret2
      exact ⟨rfl, rfl⟩
    ·
      cases h2 : okL c
      · go_enter Try.func25, Try.ntmps25
        go_wp2_with (go_at_call 34; refine (refLarge_c _ _).mono ?_; rintro e w' ⟨rfl, rfl⟩)
        go_ret2
        exact ⟨rfl, rfl⟩
      ·
        cases h3 : okL d
        · go_enter Try.func25, Try.ntmps25
          go_wp2_with (go_at_call 34; refine (refLarge_c _ _).mono ?_; rintro e w' ⟨rfl, rfl⟩)
          go_ret2
          exact ⟨rfl, rfl⟩
        ·
          by_cases hb : b = 0
          · subst hb
            go_enter Try.func25, Try.ntmps25
            go_wp2_with (go_at_call 34; refine (refLarge_c _ _).mono ?_; rintro e w' ⟨rfl, rfl⟩)
            go_ret2
            exact ⟨rfl, rfl⟩
          · have hb0 : (b == 0) = false := by simpa using hb
            obtain rfl : d = 0 := by
              have := HH.out
              simp only [cmpOk, h0, h1, h2, h3, Bool.true_and, ne_eq, hb, not_false_eq_true, decide_true, decide_eq_false_iff_not, Classical.not_not] at this
              exact this
            go_enter Try.func25, Try.ntmps25
            go_wp2_with (go_at_call 34; refine (refLarge_c _ _).mono ?_; rintro e w' ⟨rfl, rfl⟩)
            go_ret2
            exact ⟨rfl, rfl⟩
set_option maxHeartbeats 1000000 in
theorem compare_yes (a b c d : Int) (w : World) (h : cmpOk a b c d = true) :
    Calls Try.prog 24 #[.int .i64 a, .int .i64 b, .int .i64 c, .int .i64 d] w fun e w' => e = .returned (.tuple #[.int .i64 (cmpF a b c d), .int .i64 0]) ∧ E w w' := by
  obtain ⟨⟨a0, a1⟩, ⟨b0, b1⟩, ⟨c0, c1⟩, d0, d1⟩ := cmpOk_iff.1 h
  clear h
  have e1 : okL a = true := okL_iff.2 ⟨a0, a1⟩
  have e2 : okL b = true := okL_iff.2 ⟨by omega, b1⟩
  have e3 : okL c = true := okL_iff.2 ⟨c0, c1⟩
  have e4 : okL d = true := okL_iff.2 ⟨by omega, d1⟩
  have e5 : (b == 0) = false := by simp; omega
  have e6 : (d == 0) = false := by simp; omega
  have HF := Lib.hid (show orI (cmpI (a * d / 18446744073709551616) (c * b / 18446744073709551616)) (cmpI (a * d % 18446744073709551616) (c * b % 18446744073709551616)) = cmpF a b c d from or_words _ _)
  generalize cmpF a b c d = v at *
  obtain ⟨p, hp⟩ : ∃ p, a * d = p := ⟨_, rfl⟩
  obtain ⟨r, hr⟩ : ∃ r, c * b = r := ⟨_, rfl⟩
  rw [hp, hr] at HF
  go_enter Try.func24, Try.ntmps24
  go_wp2_with (go_at_call 42; refine (isLarge_c _ _).mono ?_; rintro e w' ⟨rfl, rfl⟩)
  refine (mul64_c a d _ a0 (by omega) (by omega) (by omega)).mono ?_
  rintro e w' ⟨rfl, rfl⟩
  go_wp2_with fail
  refine (mul64_c c b _ c0 (by omega) (by omega) (by omega)).mono ?_
  rintro e w' ⟨rfl, rfl⟩
  go_wp2_with fail
  refine (cmpU64_c _ _ _).mono ?_
  rintro e w' ⟨rfl, rfl⟩
  go_wp2_with fail
  refine (cmpU64_c _ _ _).mono ?_
  rintro e w' ⟨rfl, rfl⟩
  generalize cmpI (p / 18446744073709551616) (r / 18446744073709551616) = x at *
  generalize cmpI (p % 18446744073709551616) (r % 18446744073709551616) = y at *
  go_wp2_with fail
  refine (cmpOr_c _ x y _ (by simp [World.cell?_alloc_new]) (by simp [World.cell?_alloc_new])).mono ?_
  rintro e w'' ⟨rfl, rfl⟩
  go_wp2_with fail
  go_ret2
  exact ⟨ret_two HF.out rfl, (E.refl _).alloc _⟩
theorem compare_c (a b c d : Int) (w : World) :
    Calls Try.prog 24 #[.int .i64 a, .int .i64 b, .int .i64 c, .int .i64 d] w fun e w' => e = .returned (.tuple #[.int .i64 (cmpV a b c d), .int .i64 (cmpX a b c d)]) ∧ E w w' := by
  unfold cmpV cmpX
  cases h : cmpOk a b c d
  · refine (compare_no a b c d w h).mono ?_
    rintro e w' ⟨rfl, rfl⟩
    exact ⟨rfl, E.refl _⟩
  · exact compare_yes a b c d w h
theorem cmpF_cases (a b c d : Int) : cmpF a b c d = -1 ∨ cmpF a b c d = 0 ∨ cmpF a b c d = 1 := by
  unfold cmpF; split
  · exact .inl rfl
  · split
    · exact .inr (.inl rfl)
    · exact .inr (.inr rfl)
set_option maxHeartbeats 2000000 in
theorem refCompare_yes (a b c d : Int) (w : World) (h : cmpOk a b c d = true) :
    Calls Try.prog 25 #[.int .i64 a, .int .i64 b, .int .i64 c, .int .i64 d] w fun e w' => e = .returned (.tuple #[.int .i64 (cmpF a b c d), .int .i64 0]) ∧ Q w w' := by
  obtain ⟨⟨a0, a1⟩, ⟨b0, b1⟩, ⟨c0, c1⟩, d0, d1⟩ := cmpOk_iff.1 h
  clear h
  have e1 : okL a = true := okL_iff.2 ⟨a0, a1⟩
  have e2 : okL b = true := okL_iff.2 ⟨by omega, b1⟩
  have e3 : okL c = true := okL_iff.2 ⟨c0, c1⟩
  have e4 : okL d = true := okL_iff.2 ⟨by omega, d1⟩
  have e5 : (b == 0) = false := by simp; omega
  have e6 : (d == 0) = false := by simp; omega
  obtain ⟨v, hv⟩ : ∃ v, cmpF a b c d = v := ⟨_, rfl⟩
  have HV := Lib.hid hv
  rw [hv]
  clear hv
  go_enter Try.func25, Try.ntmps25
  go_wp2_with (go_at_call 34; refine (refLarge_c _ _).mono ?_; rintro e w' ⟨rfl, rfl⟩)
  go_loopw [0, 1, 2, 3, 14] (fun ta tb tc td ts wr => ∃ a b c d s : Int, ta = .int .i64 a ∧ tb = .int .i64 b ∧ tc = .int .i64 c ∧ td = .int .i64 d ∧ ts = .int .i64 s ∧ 0 ≤ a ∧ a ≤ 1152921504606846976 ∧ 0 < b ∧ b ≤ 1152921504606846976 ∧ 0 ≤ c ∧ c ≤ 1152921504606846976 ∧ 0 < d ∧ d ≤ 1152921504606846976 ∧ -1 ≤ s ∧ s ≤ 1 ∧ Hid (s * cmpF a b c d = v) ∧ Q w wr) (fun _ tb _ _ _ _ => (intOf tb).toNat)
  case atStart => exact ⟨a, b, c, d, 1, rfl, rfl, rfl, rfl, rfl, a0, a1, b0, b1, c0, c1, d0, d1, by omega, by omega, show _ = _ by rw [Int.one_mul]; exact HV.out, Q.refl _⟩
  case round =>
    clear a0 a1 b0 b1 c0 c1 d0 d1 e1 e2 e3 e4 e5 e6 HV
    obtain ⟨a, b, c, d, s, rfl, rfl, rfl, rfl, rfl, a0, a1, b0, b1, c0, c1, d0, d1, s0, s1, HV, hq⟩ := hrel
    obtain ⟨wi, rfl⟩ : ∃ wo : World, wo = wr := ⟨_, rfl⟩
    have f1 : (b == 0) = false := by simp; omega
    have f2 : (d == 0) = false := by simp; omega
    have f3 : (b == -1) = false := by simp; omega
    have f4 : (d == -1) = false := by simp; omega
    have g1 := Int.ediv_nonneg a0 (Int.le_of_lt b0)
    have g2 := Int.ediv_nonneg c0 (Int.le_of_lt d0)
    have g3 := Int.ediv_le_self b a0
    have g4 := Int.ediv_le_self d c0
    have m1 := Int.emod_nonneg a (show b ≠ 0 by omega)
    have m2 := Int.emod_nonneg c (show d ≠ 0 by omega)
    have m3 := Int.emod_lt_of_pos a b0
    have m4 := Int.emod_lt_of_pos c d0
    by_cases hne : a / b = c / d
    · have k1 : (a / b != c / d) = false := by simpa using hne
      have HE := Lib.hid hne
      clear hne
      by_cases hp : a % b = 0
      · have k2 : (a % b == 0) = true := by simpa using hp
        by_cases hz : c % d = 0
        · have k3 : (c % d == 0) = true := by simpa using hz
          have HR := Lib.hid (show 0 = v by rw [← HV.out, cmpF_zero HE.out hp hz]; simp)
          clear hp hz
          go_wp2_with fail
          go_quiet (fail)
          go_wp2_with fail
          go_ret2
          exact ⟨ret_two HR.out rfl, hq.drewN _⟩
        · have k3 : (c % d == 0) = false := by simpa using hz
          have HR := Lib.hid (show -s = v by rw [← HV.out, cmpF_pz b0 HE.out hp (by omega)]; omega)
          clear hp hz
          go_wp2_with fail
          go_quiet (fail)
          go_wp2_with fail
          go_ret2
          exact ⟨ret_two HR.out rfl, hq.drewN _⟩
      · have k2 : (a % b == 0) = false := by simpa using hp
        by_cases hz : c % d = 0
        · have k3 : (c % d == 0) = true := by simpa using hz
          have HR := Lib.hid (show s = v by rw [← HV.out, cmpF_qz d0 HE.out (by omega) hz]; omega)
          clear hp hz
          go_wp2_with fail
          go_quiet (fail)
          go_wp2_with fail
          go_ret2
          exact ⟨ret_two HR.out rfl, hq.drewN _⟩
        · have k3 : (c % d == 0) = false := by simpa using hz
          have HR := Lib.hid (show -s * cmpF b (a % b) d (c % d) = v by rw [← HV.out, cmpF_next HE.out, Int.neg_mul, Int.mul_neg])
          have p1 : 0 < a % b := by omega
          have p2 : 0 < c % d := by omega
          clear hp hz
          go_wp2_with fail
          go_quiet (fail)
          go_wp2_with fail
          go_roundw
          case rel => exact ⟨b, a % b, d, c % d, -s, rfl, rfl, rfl, rfl, rfl, by omega, by omega, by omega, by omega, by omega, by omega, by omega, by omega, by omega, by omega, HR, hq.drewN _⟩
          case measure => simp [intOf]; omega
    · have k1 : (a / b != c / d) = true := by simpa using hne
      by_cases hg : c / d < a / b
      · have k2 : decide (c / d < a / b) = true := by simpa using hg
        have HR := Lib.hid (show s = v by rw [← HV.out, cmpF_gt b0 d0 hg]; omega)
        go_wp2_with fail
        go_quiet (fail)
        go_wp2_with fail
        go_quiet (fail)
        go_wp2_with fail
        go_ret2
        exact ⟨ret_two HR.out rfl, by first | exact hq.drewN _ | exact (hq.drewN _).drewN _⟩
      · have k2 : decide (c / d < a / b) = false := by simpa using hg
        have HR := Lib.hid (show -s = v by rw [← HV.out, cmpF_lt b0 d0 (by omega)]; omega)
        go_wp2_with fail
        go_quiet (fail)
        go_wp2_with fail
        go_quiet (fail)
        go_wp2_with fail
        go_ret2
        exact ⟨ret_two HR.out rfl, by first | exact hq.drewN _ | exact (hq.drewN _).drewN _⟩
theorem refCompare_c (a b c d : Int) (w : World) :
    Calls Try.prog 25 #[.int .i64 a, .int .i64 b, .int .i64 c, .int .i64 d] w fun e w' => e = .returned (.tuple #[.int .i64 (cmpV a b c d), .int .i64 (cmpX a b c d)]) ∧ Q w w' := by
  unfold cmpV cmpX
  cases h : cmpOk a b c d
  · refine (refCompare_no a b c d w h).mono ?_
    rintro e w' ⟨rfl, rfl⟩
    exact ⟨rfl, Q.refl _⟩
  · exact refCompare_yes a b c d w h
end Go.Proofs.Ytkbdmicnmddikaa
