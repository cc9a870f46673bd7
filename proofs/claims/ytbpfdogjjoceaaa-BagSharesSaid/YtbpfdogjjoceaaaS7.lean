/- Contracts of cmp.Compare, cmp.Or, of Compare of package share and of the reference. -/
import Derived.Test.YtbpfdogjjoceaaaS6
namespace Go.Proofs.Ytbpfdogjjoceaaa
open Go.RowKit

def cmpI (x y : Int) : Int := if x < y then -1 else if y < x then 1 else 0
def orI (a b : Int) : Int := if a = 0 then b else a
theorem cmpI_range (x y : Int) : -1 ≤ cmpI x y ∧ cmpI x y ≤ 1 := by unfold cmpI; split; · omega
                                                                    split <;> omega

set_option maxHeartbeats 400000 in
theorem cmpU64_c (x y : Int) (w : World) : Calls Try.prog 71 #[.int .u64 x, .int .u64 y] w fun e w' => e = .returned (.int .i64 (cmpI x y)) ∧ w = w' := by
  have n1 : (x != x) = false := by simp
  have n2 : (y != y) = false := by simp
  by_cases h1 : x < y
  · have HC := Lib.hid (show -1 = cmpI x y by simp [cmpI, h1])
    generalize cmpI x y = r at *
    go_enter Try.func71, Try.ntmps71
    go_wp2
    go_ret
    exact ⟨ret_int HC.out, rfl⟩
  · by_cases h2 : y < x
    · have HC := Lib.hid (show 1 = cmpI x y by simp [cmpI, h1, h2])
      generalize cmpI x y = r at *
      go_enter Try.func71, Try.ntmps71
      go_wp2
      go_ret
      exact ⟨ret_int HC.out, rfl⟩
    · have HC := Lib.hid (show 0 = cmpI x y by simp [cmpI, h1, h2])
      generalize cmpI x y = r at *
      go_enter Try.func71, Try.ntmps71
      go_wp2
      go_ret
      exact ⟨ret_int HC.out, rfl⟩
set_option maxHeartbeats 400000 in
theorem cmpI64_c (x y : Int) (w : World) : Calls Try.prog 72 #[.int .i64 x, .int .i64 y] w fun e w' => e = .returned (.int .i64 (cmpI x y)) ∧ w = w' := by
  have n1 : (x != x) = false := by simp
  have n2 : (y != y) = false := by simp
  by_cases h1 : x < y
  · have HC := Lib.hid (show -1 = cmpI x y by simp [cmpI, h1])
    generalize cmpI x y = r at *
    go_enter Try.func72, Try.ntmps72
    go_wp2
    go_ret
    exact ⟨ret_int HC.out, rfl⟩
  · by_cases h2 : y < x
    · have HC := Lib.hid (show 1 = cmpI x y by simp [cmpI, h1, h2])
      generalize cmpI x y = r at *
      go_enter Try.func72, Try.ntmps72
      go_wp2
      go_ret
      exact ⟨ret_int HC.out, rfl⟩
    · have HC := Lib.hid (show 0 = cmpI x y by simp [cmpI, h1, h2])
      generalize cmpI x y = r at *
      go_enter Try.func72, Try.ntmps72
      go_wp2
      go_ret
      exact ⟨ret_int HC.out, rfl⟩
set_option maxHeartbeats 400000 in
theorem cmpOr_c (g : Nat) (a b : Int) (w : World) (h0 : w.cell? ⟨g, 0, none⟩ = some (.int .i64 a)) (h1 : w.cell? ⟨g, 1, none⟩ = some (.int .i64 b)) :
    Calls Try.prog 70 #[.slice (some ⟨g, 0, none⟩) 2 2] w fun e w' => e = .returned (.int .i64 (orI a b)) ∧ w = w' := by
  by_cases ha : a = 0
  · subst ha
    have hne : ((0 : Int) != 0) = false := by simp
    by_cases hb : b = 0
    · subst hb
      go_enter Try.func70, Try.ntmps70
      go_wp2
      refine wp_loop_rounds 3 ?_
      rw [rounds_succ]
      go_wp2
      rw [rounds_succ]
      go_wp2
      rw [rounds_succ]
      go_wp2
      go_ret
      exact ⟨rfl, rfl⟩
    · have hnb : (b != 0) = true := by simpa using hb
      have HR := Lib.hid (show b = orI 0 b by simp [orI])
      generalize orI 0 b = r at *
      go_enter Try.func70, Try.ntmps70
      go_wp2
      refine wp_loop_rounds 2 ?_
      rw [rounds_succ]
      go_wp2
      rw [rounds_succ]
      go_wp2
      go_ret
      exact ⟨ret_int HR.out, rfl⟩
  · have hna : (a != 0) = true := by simpa using ha
    have HR := Lib.hid (show a = orI a b by simp [orI, ha])
    generalize orI a b = r at *
    go_enter Try.func70, Try.ntmps70
    go_wp2
    refine wp_loop_rounds 1 ?_
    rw [rounds_succ]
    go_wp2
    go_ret
    exact ⟨ret_int HR.out, rfl⟩
end Go.Proofs.Ytbpfdogjjoceaaa
