/- The reference's encoding of numbers. -/
import Derived.Test.YtbpfdogjjoceaaaRE
namespace Go.Proofs.Ytbpfdogjjoceaaa
open Go.RowKit

set_option maxHeartbeats 1000000 in
theorem refUint_c (v : Nat) (w : World) (hv : v < 18446744073709551616) :
    Calls Try.prog 80 #[.int .u64 v] w (RetOwn .u8 5 w (uv v)) := by
  have hu := uv_len10 hv
  have HV := Lib.hid hv
  clear hv
  go_enter Try.func80, Try.ntmps80
  go_wp2
  go_loopw [0, 3] (fun t s wr => ∃ (v' k c : Nat) (A : Option Addr) (l : List Int), t = .int .u64 v' ∧ s = .slice A k c ∧ Hid (v' < 18446744073709551616) ∧ Own .u8 5 wr w.heap.size A k c l ∧ E w wr ∧ Hid (l ++ uv v' = uv v)) (fun t _ _ => (intOf t).toNat)
  case atStart => exact ⟨v, 0, 0, none, [], rfl, rfl, HV.out, Own.nil _ _ _ _, E.refl _, rfl⟩
  case round =>
    obtain ⟨v', k, c, A, l, rfl, rfl, hv', hO, hE, hs⟩ := hrel
    have hle := hE.le
    have hk : k ≤ 10 := by
      have := congrArg List.length hs.out
      simp only [List.length_append] at this
      rw [hO.1] at this; omega
    by_cases h128 : 127 < (v' : Int)
    · have HU := Lib.hid (uv_big (n := v') (by omega))
      have hwr : IntKind.u64.wrap ((v' : Int) / 128) = (v' : Int) / 128 := by have := hv'.out; rw [IntKind.wrap_u64]; omega
      go_wp2_with (at_builtin; refine wpList_app1n byteT _ rfl _ _ rfl _ _ _ _ _ rfl hO _ rfl (WalkArith.wf_u8 (by omega)) (by omega) hle ?_; intro g' c2 w1 hO1 hG hB1 hor)
      go_roundw
      case rel => exact ⟨v' / 128, k + 1, c2, _, _, by go_num, rfl, show v' / 128 < 18446744073709551616 by have := hv'.out; omega, hO1, hE.up hB1, show _ = _ by rw [← hs.out, HU.out]; simp; omega⟩
      case measure => simp [intOf]; omega
    · have HU := Lib.hid (uv_small (n := v') (by omega))
      go_wp2_with (at_builtin; refine wpList_app1n byteT _ rfl _ _ rfl _ _ _ _ _ rfl hO _ rfl (WalkArith.wf_u8 (by omega)) (by omega) hle ?_; intro g' c2 w1 hO1 hG hB1 hor)
      go_ret
      exact RetOwn.mk_ (by rw [← hs.out, HU.out]) hO1 (hE.up hB1)
set_option maxHeartbeats 1000000 in
theorem refZig_c (n : Int) (w : World) (h1 : -9223372036854775808 ≤ n) (h2 : n ≤ 9223372036854775807) :
    Calls Try.prog 81 #[.int .i64 n] w fun e w' => e = .returned (.int .u64 (zig n)) ∧ w = w' := by
  by_cases h : n < 0
  · have HF := Lib.hid (show 2 * (-(n + 1)) + 1 = (zig n : Int) by simp only [zig, if_neg (show ¬ 0 ≤ n by omega)]; omega)
    go_enter Try.func81, Try.ntmps81
    go_wp2
    go_ret
    exact ⟨ret_int HF.out, rfl⟩
  · have HF := Lib.hid (show 2 * n = (zig n : Int) by simp only [zig, if_pos (show 0 ≤ n by omega)]; omega)
    go_enter Try.func81, Try.ntmps81
    go_wp2
    go_ret
    exact ⟨ret_int HF.out, rfl⟩
set_option maxHeartbeats 1000000 in
theorem refInt_c (n : Int) (w : World) (h1 : -9223372036854775808 ≤ n) (h2 : n ≤ 9223372036854775807) :
    Calls Try.prog 63 #[.int .i64 n] w (RetOwn .u8 5 w (uv (zig n))) := by
  have HZ := Lib.hid (zig_lt n h1 h2)
  go_enter Try.func63, Try.ntmps63
  go_wp2_with (first
    | (go_at_call 81; refine (refZig_c _ _ h1 h2).mono ?_; rintro e w' ⟨rfl, rfl⟩)
    | (go_at_call 80; refine (refUint_c _ _ HZ.out).mono ?_; rintro e w' ⟨A', n', c', rfl, hO, hE⟩))
  go_ret
  exact RetOwn.mk_ rfl hO hE
end Go.Proofs.Ytbpfdogjjoceaaa
