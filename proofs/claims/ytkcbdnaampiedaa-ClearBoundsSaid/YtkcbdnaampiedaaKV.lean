/- The model's Less. -/
import Derived.Test.YtkcbdnaampiedaaKU
namespace Go.Proofs.Ytkcbdnaampiedaa
open Go.RowKit

set_option maxHeartbeats 2000000 in
set_option maxRecDepth 100000 in
theorem refLess_q (a b : List Nat) (A1 A2 : Option Addr) (n1 c1 n2 c2 : Nat) (w : World) (h1 : Nums .i64 w A1 n1 c1 (ints a)) (h2 : Nums .i64 w A2 n2 c2 (ints b)) :
    Calls Try.prog 53 #[.slice A1 n1 c1, .slice A2 n2 c2] w fun e w' => e = .returned (.bool (lessN a b)) ∧ Q w w' := by
  have hm1 := h1.n63
  have hm2 := h2.n63
  have HL1 := Lib.hid (show a.length = n1 by rw [← ints_len]; exact h1.len)
  have HL2 := Lib.hid (show b.length = n2 by rw [← ints_len]; exact h2.len)
  obtain ⟨fin, hfin⟩ : ∃ fin, lessN a b = fin := ⟨_, rfl⟩
  rw [hfin]
  have HF := Lib.hid hfin
  clear hfin
  go_enter Try.func53, Try.ntmps53
  go_wp2_with fail
  go_loopw [5] (fun ti wr => ∃ k : Nat, k ≤ n1 ∧ k ≤ n2 ∧ ti = .int .i64 k ∧ Q w wr ∧ Hid (lessN (a.drop k) (b.drop k) = fin)) (fun ti _ => n1 - (intOf ti).toNat)
  case atStart => exact ⟨0, Nat.zero_le _, Nat.zero_le _, rfl, Q.refl _, HF.out⟩
  case round =>
    obtain ⟨k, hk1, hk2, rfl, hq, hle⟩ := hrel
    by_cases l1 : (k : Int) < (n1 : Int)
    · by_cases l2 : (k : Int) < (n2 : Int)
      · obtain ⟨b1, o1, x, rfl, hb1, hx, hwx, hcx⟩ := (h1.q hq).get (i := k) (by omega)
        obtain ⟨b2, o2, y, rfl, hb2, hy, hwy, hcy⟩ := (h2.q hq).get (i := k) (by omega)
        obtain ⟨xa, hxa, rfl⟩ : ∃ xa : Nat, a[k]? = some xa ∧ (xa : Int) = x := by
          rw [ints, List.getElem?_map] at hx
          cases e : a[k]? with
          | none => rw [e] at hx; simp at hx
          | some z => rw [e] at hx; exact ⟨z, rfl, by simpa using hx⟩
        obtain ⟨yb, hyb, rfl⟩ : ∃ yb : Nat, b[k]? = some yb ∧ (yb : Int) = y := by
          rw [ints, List.getElem?_map] at hy
          cases e : b[k]? with
          | none => rw [e] at hy; simp at hy
          | some z => rw [e] at hy; exact ⟨z, rfl, by simpa using hy⟩
        have HS := Lib.hid (show (if xa = yb then lessN (a.drop (k + 1)) (b.drop (k + 1)) else decide (xa < yb)) = fin by rw [← hle.out, drop_at hxa, drop_at hyb]; rfl)
        clear hle hx hy hxa hyb hwx hwy
        by_cases he : xa = yb
        · have hd : ((xa : Int) != (yb : Int)) = false := by simp [he]
          have HN := Lib.hid (show lessN (a.drop (k + 1)) (b.drop (k + 1)) = fin by rw [← HS.out, if_pos he])
          clear he
          go_wp2_with fail
          go_quiet (fail)
          go_wp2_with fail
          go_roundw
          case rel => exact ⟨k + 1, by omega, by omega, by go_num, hq.drewN _, HN.out⟩
          case measure => simp [intOf]; omega
        · have hd : ((xa : Int) != (yb : Int)) = true := by simp; omega
          have HN := Lib.hid (show fin = decide (xa < yb) by rw [← HS.out, if_neg he])
          go_wp2_with fail
          go_quiet (fail)
          go_wp2_with fail
          go_quiet (fail)
          go_wp2_with fail
          go_ret
          exact ⟨ret_bool (by rw [HN.out]; first | done | simp), by first | exact (hq.drewN _).drewN _ | exact hq.drewN _⟩
      · have HN := Lib.hid (show fin = decide ((n1 : Int) < (n2 : Int)) by
          rw [← hle.out, drop_end HL2.out (by omega)]
          have : ¬ (n1 : Int) < (n2 : Int) := by omega
          rw [decide_eq_false this]
          cases a.drop k <;> rfl)
        go_wp2_with fail
        go_ret
        exact ⟨ret_bool (by rw [HN.out]; simp), hq⟩
    · have HN := Lib.hid (show fin = decide ((n1 : Int) < (n2 : Int)) by
        rw [← hle.out, drop_end HL1.out (by omega)]
        by_cases e : n1 < n2
        · have hd : b.drop k ≠ [] := by intro h; have := congrArg List.length h; rw [List.length_drop, HL2.out] at this; simp at this; omega
          rw [decide_eq_true (by omega)]
          cases hb : b.drop k with
          | nil => exact absurd hb hd
          | cons z r => rfl
        · rw [drop_end HL2.out (by omega), decide_eq_false (by omega)]; rfl)
      go_wp2_with fail
      go_ret
      exact ⟨ret_bool (by rw [HN.out]; simp), hq⟩
theorem refLess_c (a b : List Nat) (A1 A2 : Option Addr) (n1 c1 n2 c2 : Nat) (w : World) (h1 : Nums .i64 w A1 n1 c1 (ints a)) (h2 : Nums .i64 w A2 n2 c2 (ints b)) :
    Calls Try.prog 53 #[.slice A1 n1 c1, .slice A2 n2 c2] w (RetK w (lessN a b)) := by
  refine (refLess_q a b A1 A2 n1 c1 n2 c2 w h1 h2).mono ?_
  rintro e w' ⟨rfl, hq⟩
  exact ⟨rfl, E.of_q hq⟩
end Go.Proofs.Ytkcbdnaampiedaa
