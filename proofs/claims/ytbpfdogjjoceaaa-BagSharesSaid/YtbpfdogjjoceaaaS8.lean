
/- Contracts of Compare of package share and of the reference. -/
import Derived.Test.YtbpfdogjjoceaaaS7
namespace Go.Proofs.Ytbpfdogjjoceaaa
open Go.RowKit

def cmpOk (a b c d : Int) : Bool := okL a && (okL b && (okL c && (okL d && (decide (b ≠ 0) && decide (d ≠ 0)))))
def cmpV (a b c d : Int) : Int := if cmpOk a b c d then cmpF a b c d else 0
def cmpX (a b c d : Int) : Int := if cmpOk a b c d then 0 else 1
theorem cmpOk_iff {a b c d : Int} : cmpOk a b c d = true ↔ (0 ≤ a ∧ a ≤ 1152921504606846976) ∧ (0 < b ∧ b ≤ 1152921504606846976) ∧ (0 ≤ c ∧ c ≤ 1152921504606846976) ∧ 0 < d ∧ d ≤ 1152921504606846976 := by
  simp only [cmpOk, Bool.and_eq_true, okL_iff, decide_eq_true_eq]; omega
theorem or_words (p r : Int) : orI (cmpI (p / 18446744073709551616) (r / 18446744073709551616)) (cmpI (p % 18446744073709551616) (r % 18446744073709551616)) = if p < r then -1 else if p = r then 0 else 1 := by
  rw [← cmpF_words]
  unfold orI cmpI
  by_cases h1 : p / 18446744073709551616 < r / 18446744073709551616
  · simp [h1]
  · by_cases h2 : r / 18446744073709551616 < p / 18446744073709551616
    · rw [if_neg h1, if_neg h1, if_pos h2, if_neg (show ¬ p / 18446744073709551616 = r / 18446744073709551616 by omega), if_neg (by omega)]
    · have he : p / 18446744073709551616 = r / 18446744073709551616 := by omega
      rw [if_neg h1, if_neg h1, if_neg h2, if_pos he, if_pos rfl]
      by_cases h3 : p % 18446744073709551616 < r % 18446744073709551616
      · rw [if_pos h3, if_pos h3]
      · rw [if_neg h3, if_neg h3]
        by_cases h4 : r % 18446744073709551616 < p % 18446744073709551616
        · rw [if_pos h4, if_neg (by omega)]
        · rw [if_neg h4, if_pos (by omega)]

theorem cmpF_cases (a b c d : Int) : cmpF a b c d = -1 ∨ cmpF a b c d = 0 ∨ cmpF a b c d = 1 := by
  unfold cmpF; split
  · exact .inl rfl
  · split
    · exact .inr (.inl rfl)
    · exact .inr (.inr rfl)
end Go.Proofs.Ytbpfdogjjoceaaa
