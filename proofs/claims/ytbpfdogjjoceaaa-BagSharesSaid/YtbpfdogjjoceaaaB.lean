/- Contracts of the functions on bags that only read: isBag, areBags, Is, fit, Same, Around, Most. -/
import Derived.Test.YtbpfdogjjoceaaaProg
import Derived.Test.YtbpfdogjjoceaaaA
import Derived.Test.YtbpfdogjjoceaaaP
namespace Go.Proofs.Ytbpfdogjjoceaaa
open Go.RowKit

set_option maxHeartbeats 400000 in
theorem isBag_c (A : Option Addr) (n c : Nat) (l : List Int) (w : World) (h : Nums .i64 w A n c l) :
    Calls Try.prog 49 #[.slice A n c] w fun e w' => e = .returned (.bool (isBagB l)) ∧ w = w' := by
  have hm := h.n63
  by_cases h64 : 64 < n
  · have hfin : isBagB l = false := by have := h.len; simp [isBagB]; omega
    rw [hfin]
    clear hfin
    go_enter Try.func49, Try.ntmps49
    go_wp2
    go_ret
    exact ⟨rfl, rfl⟩
  · have HF := Lib.hid (show isBagB l = l.all okU by have := h.len; simp [isBagB]; omega)
    go_enter Try.func49, Try.ntmps49
    go_wp2
    go_loop [10] (fun i => ∃ k : Nat, k ≤ n ∧ i = .int .i64 k ∧ Hid ((l.drop k).all okU = l.all okU)) (fun i => n - (intOf i).toNat)
    case atStart => exact ⟨0, Nat.zero_le _, rfl, rfl⟩
    case round =>
      obtain ⟨k, hk, rfl, hall⟩ := hrel
      by_cases hlt : k < n
      · obtain ⟨b, o, x, rfl, hb, hx, hwx, hck⟩ := h.get hlt
        have hd := all_drop hx
        have HD := Lib.hid hd
        clear hx hd hwx
        by_cases h0 : x < 0
        · go_wp2
          go_ret
          exact ⟨by rw [HF.out, ← hall.out, HD.out, okU_neg h0]; rfl, rfl⟩
        · by_cases h1 : 1099511627776 < x
          · go_wp2
            go_ret
            exact ⟨by rw [HF.out, ← hall.out, HD.out, okU_big h1]; rfl, rfl⟩
          · go_wp2
            go_round
            case rel => exact ⟨k + 1, by omega, by go_num, show _ = _ by rw [← hall.out, HD.out, okU_iff.2 ⟨by omega, by omega⟩]; rfl⟩
            case measure => simp [intOf]; omega
      · go_wp2
        go_ret
        exact ⟨by rw [HF.out, ← hall.out, drop_end h.len (by omega)]; rfl, rfl⟩

set_option maxHeartbeats 400000 in
theorem refIs_c (A : Option Addr) (n c : Nat) (l : List Int) (w : World) (h : Nums .i64 w A n c l) :
    Calls Try.prog 31 #[.slice A n c] w fun e w' => e = .returned (.bool (isBagB l)) ∧ w = w' := by
  have hm := h.n63
  go_enter Try.func31, Try.ntmps31
  go_wp2
  go_loop [3] (fun i => ∃ k : Nat, k ≤ n ∧ i = .int .i64 k ∧ Hid ((l.drop k).all okU = l.all okU)) (fun i => n - (intOf i).toNat)
  case atStart => exact ⟨0, Nat.zero_le _, rfl, rfl⟩
  case round =>
    obtain ⟨k, hk, rfl, hall⟩ := hrel
    by_cases hlt : k < n
    · obtain ⟨b, o, x, rfl, hb, hx, hwx, hck⟩ := h.get hlt
      have hd := all_drop hx
      have HD := Lib.hid hd
      clear hx hd hwx
      by_cases h0 : x < 0
      · have hd0 : decide (x < 0) = true := by simpa using h0
        go_wp2
        go_ret
        exact ⟨by rw [isBagB, ← hall.out, HD.out, okU_neg h0]; simp, rfl⟩
      · have hd0 : decide (x < 0) = false := by simpa using h0
        by_cases h1 : 1099511627776 < x
        · go_wp2
          go_ret
          exact ⟨by rw [isBagB, ← hall.out, HD.out, okU_big h1]; simp, rfl⟩
        · go_wp2
          go_round
          case rel => exact ⟨k + 1, by omega, by go_num, show _ = _ by rw [← hall.out, HD.out, okU_iff.2 ⟨by omega, by omega⟩]; rfl⟩
          case measure => simp [intOf]; omega
    · have HF := Lib.hid (show isBagB l = decide (n ≤ 64) by rw [isBagB, ← hall.out, drop_end h.len (by omega), h.len]; simp)
      go_wp2
      go_ret
      exact ⟨by rw [HF.out]; simp; omega, rfl⟩

theorem eqI_dec (a b : Nat) : ((a : Int) == (b : Int)) = decide (a = b) := by
  by_cases h : a = b
  · simp [h]
  · rw [decide_eq_false h]; simp; omega
theorem eqI_t {a b : Nat} (h : a = b) : ((a : Int) == (b : Int)) = true := by simp [h]
theorem eqI_f {a b : Nat} (h : ¬ a = b) : ((a : Int) == (b : Int)) = false := by simp; omega
theorem neI_t {a b : Nat} (h : ¬ a = b) : ((a : Int) != (b : Int)) = true := by simp; omega
theorem neI_f {a b : Nat} (h : a = b) : ((a : Int) != (b : Int)) = false := by simp [h]

set_option maxHeartbeats 400000 in
theorem areBags_c (A1 A2 : Option Addr) (n1 c1 n2 c2 : Nat) (l1 l2 : List Int) (w : World) (h1 : Nums .i64 w A1 n1 c1 l1) (h2 : Nums .i64 w A2 n2 c2 l2) :
    Calls Try.prog 53 #[.slice A1 n1 c1, .slice A2 n2 c2] w fun e w' => e = .returned (.bool (fitB l1 l2)) ∧ w = w' := by
  have m1 := h1.n63
  have m2 := h2.n63
  have e1 := h1.len
  have e2 := h2.len
  have HF := Lib.hid (show fitB l1 l2 = (decide (n1 = n2) && (isBagB l1 && isBagB l2)) by rw [fitB, e1, e2])
  clear e1 e2
  by_cases hn : n1 = n2
  · have hb := eqI_t hn
    have HN := Lib.hid hn
    clear hn
    cases hx : isBagB l1
    · go_enter Try.func53, Try.ntmps53
      go_wp2_with (go_at_call 49; refine (isBag_c _ _ _ _ _ (by assumption)).mono ?_; rintro e w' ⟨rfl, rfl⟩)
      go_ret
      exact ⟨by rw [HF.out]; simp [hx], rfl⟩
    · go_enter Try.func53, Try.ntmps53
      go_wp2_with (go_at_call 49; refine (isBag_c _ _ _ _ _ (by assumption)).mono ?_; rintro e w' ⟨rfl, rfl⟩)
      go_ret
      exact ⟨by rw [HF.out]; simp [hx, HN.out], rfl⟩
  · have hb := eqI_f hn
    go_enter Try.func53, Try.ntmps53
    go_wp2
    go_ret
    exact ⟨by rw [HF.out]; simp [hn], rfl⟩

set_option maxHeartbeats 400000 in
theorem fit_c (A1 A2 : Option Addr) (n1 c1 n2 c2 : Nat) (l1 l2 : List Int) (w : World) (h1 : Nums .i64 w A1 n1 c1 l1) (h2 : Nums .i64 w A2 n2 c2 l2) :
    Calls Try.prog 54 #[.slice A1 n1 c1, .slice A2 n2 c2] w fun e w' => e = .returned (.bool (fitB l1 l2)) ∧ w = w' := by
  have m1 := h1.n63
  have m2 := h2.n63
  have e1 := h1.len
  have e2 := h2.len
  have HF := Lib.hid (show fitB l1 l2 = (decide (n1 = n2) && (isBagB l1 && isBagB l2)) by rw [fitB, e1, e2])
  clear e1 e2
  have hi : ((n1 : Int) == (n2 : Int)) = decide (n1 = n2) := eqI_dec n1 n2
  have HI := Lib.hid hi
  clear hi
  cases hx : isBagB l1 <;> cases hy : isBagB l2
  all_goals
    go_enter Try.func54, Try.ntmps54
    go_wp2_with (go_at_call 31; refine (refIs_c _ _ _ _ _ (by assumption)).mono ?_; rintro e w' ⟨rfl, rfl⟩)
    go_ret
    exact ⟨by rw [HF.out]; simp [hx, hy, HI.out], rfl⟩

set_option maxHeartbeats 400000 in
theorem around_c (a m : Int) (w : World) (h1 : -9223372036854775808 ≤ a) (h2 : a ≤ 9223372036854775807) (hm : 0 < m) (hm2 : m ≤ 9223372036854775807) :
    Calls Try.prog 13 #[.int .i64 a, .int .i64 m] w fun e w' => e = .returned (.int .i64 (a % m)) ∧ w = w' := by
  have hz : (m == 0) = false := by simp; omega
  have hz1 : (m == -1) = false := by simp; omega
  have ht : -m < a.tmod m ∧ a.tmod m < m := ⟨Int.lt_tmod_of_pos a hm, Int.tmod_lt_of_pos a hm⟩
  obtain ⟨t1, t2⟩ := ht
  by_cases h : a.tmod m < 0
  · have HF := Lib.hid (show a.tmod m + m = a % m by
      have := Int.tmod_def a m; rw [Int.tmod_eq_emod] at h ⊢; split at h
      · have := Int.emod_nonneg a (show m ≠ 0 by omega); omega
      · split <;> omega)
    go_enter Try.func13, Try.ntmps13
    go_wp2
    go_ret
    exact ⟨ret_int HF.out, rfl⟩
  · have HF := Lib.hid (show a.tmod m = a % m by
      rw [Int.tmod_eq_emod] at h ⊢; split at h
      · rename_i hh; rw [if_pos hh]; omega
      · have := Int.emod_lt_of_pos a hm; omega)
    go_enter Try.func13, Try.ntmps13
    go_wp2
    go_ret
    exact ⟨ret_int HF.out, rfl⟩

set_option maxHeartbeats 400000 in
theorem same_c (A1 A2 : Option Addr) (n1 c1 n2 c2 : Nat) (l1 l2 : List Int) (w : World) (h1 : Nums .i64 w A1 n1 c1 l1) (h2 : Nums .i64 w A2 n2 c2 l2) :
    Calls Try.prog 16 #[.slice A1 n1 c1, .slice A2 n2 c2] w fun e w' => e = .returned (.bool (sameB l1 l2)) ∧ ∃ m, w' = w.drewN m := by
  have m1 := h1.n63
  have m2 := h2.n63
  by_cases hn : n1 = n2
  · subst hn
    go_enter Try.func16, Try.ntmps16
    go_wp2
    go_loopw [5] (fun i wr => ∃ k : Nat, k ≤ n1 ∧ i = .int .i64 k ∧ Q w wr ∧ Hid (sameB (l1.drop k) (l2.drop k) = sameB l1 l2)) (fun i _ => n1 - (intOf i).toNat)
    case atStart => exact ⟨0, Nat.zero_le _, rfl, Q.refl _, rfl⟩
    case round =>
      obtain ⟨k, hk, rfl, hq, hs⟩ := hrel
      by_cases hlt : k < n1
      · obtain ⟨b1, o1, x, rfl, hb1, hx, hwx, hc1⟩ := (h1.q hq).get hlt
        obtain ⟨b2, o2, y, rfl, hb2, hy, hwy, hc2⟩ := (h2.q hq).get hlt
        have HX := Lib.hid (drop_at hx)
        have HY := Lib.hid (drop_at hy)
        clear hx hy hwx hwy
        by_cases he : x = y
        · have hd : (x != y) = false := by simp [he]
          have HE := Lib.hid he
          clear he
          go_wp2
          go_quiet (fail)
          go_wp2
          go_roundw
          case rel => exact ⟨k + 1, by omega, by go_num, hq.drewN _, show _ = _ by rw [← hs.out, HX.out, HY.out, HE.out]; simp [sameB]⟩
          case measure => simp [intOf]; omega
        · have hd : (x != y) = true := by simpa using he
          go_wp2
          go_quiet (fail)
          go_wp2
          go_ret
          exact ⟨ret_bool (by rw [← hs.out, HX.out, HY.out]; simp [sameB, he]), hq.drewN _⟩
      · have HF := Lib.hid (show sameB l1 l2 = true by rw [← hs.out, drop_end h1.len (by omega), drop_end h2.len (by omega)]; rfl)
        go_wp2
        go_ret
        exact ⟨ret_bool HF.out.symm, hq⟩
  · have hb := neI_t hn
    have HF := Lib.hid (show sameB l1 l2 = false by
      have := h1.len; have := h2.len; simp only [sameB, decide_eq_false_iff_not]; rintro rfl; omega)
    go_enter Try.func16, Try.ntmps16
    go_wp2
    go_ret
    exact ⟨ret_bool HF.out.symm, Q.refl _⟩

set_option maxHeartbeats 400000 in
theorem most_c (A1 A2 : Option Addr) (n1 c1 n2 c2 : Nat) (l1 l2 : List Int) (w : World) (h1 : Nums .i64 w A1 n1 c1 l1) (h2 : Nums .i64 w A2 n2 c2 l2) :
    Calls Try.prog 17 #[.slice A1 n1 c1, .slice A2 n2 c2] w fun e w' => e = .returned (.int .i64 (mostB l1 l2)) ∧ w = w' := by
  have m1 := h1.n63
  have m2 := h2.n63
  cases hf : fitB l1 l2
  · go_enter Try.func17, Try.ntmps17
    go_wp2_with (go_at_call 53; refine (areBags_c _ _ _ _ _ _ _ _ _ h1 h2).mono ?_; rintro e w' ⟨rfl, rfl⟩)
    go_ret
    exact ⟨ret_int (by simp [mostB, hf]), rfl⟩
  · have hn : n1 = n2 := by have := fit_len hf; have := h1.len; have := h2.len; omega
    subst hn
    have HM := Lib.hid (show mostB l1 l2 = mostF 1048576 l1 l2 by simp [mostB, hf])
    have HB1 := Lib.hid (fit_a hf)
    have HB2 := Lib.hid (fit_b hf)
    go_enter Try.func17, Try.ntmps17
    go_wp2_with (go_at_call 53; refine (areBags_c _ _ _ _ _ _ _ _ _ h1 h2).mono ?_; rintro e w' ⟨rfl, rfl⟩)
    go_loop [5, 14] (fun t i => ∃ (k : Nat) (m : Int), k ≤ n1 ∧ i = .int .i64 k ∧ t = .int .i64 m ∧ 0 ≤ m ∧ m ≤ 1048576 ∧ Hid (mostF m (l1.drop k) (l2.drop k) = mostF 1048576 l1 l2)) (fun _ i => n1 - (intOf i).toNat)
    case atStart => exact ⟨0, 1048576, Nat.zero_le _, rfl, rfl, by omega, by omega, rfl⟩
    case round =>
      obtain ⟨k, m, hk, rfl, rfl, hm0, hm1, hs⟩ := hrel
      by_cases hlt : k < n1
      · obtain ⟨b1, o1, x, rfl, hb1, hx, hwx, hc1⟩ := h1.get hlt
        obtain ⟨b2, o2, y, rfl, hb2, hy, hwy, hc2⟩ := h2.get hlt
        have HS := Lib.hid (mostF_step (k := m) hx hy)
        obtain ⟨x0, x1⟩ := isBag_get HB1.out hx
        obtain ⟨y0, y1⟩ := isBag_get HB2.out hy
        clear hx hy hwx hwy
        by_cases hp : 0 < y
        · have hd0 : 0 ≤ x / y := Int.ediv_nonneg x0 y0
          go_wp2
          go_round
          case rel => exact ⟨k + 1, min m (x / y), by omega, by go_num, congrArg (Value.int .i64) (by split <;> omega), by omega, by omega, show _ = _ by rw [← hs.out, HS.out, if_pos hp]⟩
          case measure => simp [intOf]; omega
        · go_wp2
          go_round
          case rel => exact ⟨k + 1, m, by omega, by go_num, rfl, by omega, by omega, show _ = _ by rw [← hs.out, HS.out, if_neg (by omega)]⟩
          case measure => simp [intOf]; omega
      · have HF := Lib.hid (show m = mostB l1 l2 by rw [HM.out, ← hs.out, drop_end h1.len (by omega), mostF_nil])
        go_wp2
        go_ret
        exact ⟨ret_int HF.out, rfl⟩

set_option maxHeartbeats 1000000 in
theorem refMost_c (A1 A2 : Option Addr) (n1 c1 n2 c2 : Nat) (l1 l2 : List Int) (w : World) (h1 : Nums .i64 w A1 n1 c1 l1) (h2 : Nums .i64 w A2 n2 c2 l2) :
    Calls Try.prog 18 #[.slice A1 n1 c1, .slice A2 n2 c2] w fun e w' => e = .returned (.int .i64 (mostB l1 l2)) ∧ ∃ m, w' = w.drewN m := by
  have m1 := h1.n63
  have m2 := h2.n63
  cases hf : fitB l1 l2
  · go_enter Try.func18, Try.ntmps18
    go_wp2_with (go_at_call 54; refine (fit_c _ _ _ _ _ _ _ _ _ h1 h2).mono ?_; rintro e w' ⟨rfl, rfl⟩)
    go_ret
    exact ⟨ret_int (by simp [mostB, hf]), Q.refl _⟩
  · have hn : n1 = n2 := by have := fit_len hf; have := h1.len; have := h2.len; omega
    subst hn
    have HM := Lib.hid (show mostB l1 l2 = mostF 1048576 l1 l2 by simp [mostB, hf])
    have HB1 := Lib.hid (fit_a hf)
    have HB2 := Lib.hid (fit_b hf)
    go_enter Try.func18, Try.ntmps18
    go_wp2_with (go_at_call 54; refine (fit_c _ _ _ _ _ _ _ _ _ h1 h2).mono ?_; rintro e w' ⟨rfl, rfl⟩)
    go_loopw [6, 7] (fun t i wr => ∃ (k : Nat) (m : Int), k ≤ n1 ∧ i = .int .i64 k ∧ t = .int .i64 m ∧ 0 ≤ m ∧ m ≤ 1048576 ∧ Q w wr ∧ Hid (mostF m (l1.drop k) (l2.drop k) = mostF 1048576 l1 l2)) (fun _ i _ => n1 - (intOf i).toNat)
    case atStart => exact ⟨0, 1048576, Nat.zero_le _, rfl, rfl, by omega, by omega, Q.refl _, rfl⟩
    case round =>
      obtain ⟨k, m, hk, rfl, rfl, hm0, hm1, hq, hs⟩ := hrel
      by_cases hlt : k < n1
      · obtain ⟨b1, o1, x, rfl, hb1, hx, hwx, hc1⟩ := (h1.q hq).get hlt
        obtain ⟨b2, o2, y, rfl, hb2, hy, hwy, hc2⟩ := (h2.q hq).get hlt
        have HS := Lib.hid (mostF_step (k := m) hx hy)
        obtain ⟨x0, x1⟩ := isBag_get HB1.out hx
        obtain ⟨y0, y1⟩ := isBag_get HB2.out hy
        clear hx hy hwx hwy
        obtain ⟨wo, rfl⟩ : ∃ wo : World, wo = wr := ⟨_, rfl⟩
        go_wp2
        go_loopw [6] (fun t wr => ∃ (m' : Int), t = .int .i64 m' ∧ 0 ≤ m' ∧ m' ≤ 1048576 ∧ Q wo wr ∧ (m' = m ∨ (0 < y ∧ m' = x / y ∧ x / y < m))) (fun t _ => (intOf t).toNat)
        case atStart => exact ⟨m, rfl, hm0, hm1, Q.refl _, .inl rfl⟩
        case round =>
          obtain ⟨m', rfl, p0, p1, hq', hor⟩ := hrel
          obtain ⟨wi, rfl⟩ : ∃ wo : World, wo = wr := ⟨_, rfl⟩
          have HO := Lib.hid hor
          clear hor
          obtain ⟨z0, z1⟩ := mul_le_60 p0 p1 y0 y1
          have hci1 : wi.cell? ⟨b1, o1 + k, none⟩ = some (.int .i64 x) := by rw [(E.of_q hq').cell hb1]; exact hc1
          have hci2 : wi.cell? ⟨b2, o2 + k, none⟩ = some (.int .i64 y) := by rw [(E.of_q hq').cell hb2]; exact hc2
          clear hc1 hc2
          by_cases hp : 0 < y
          · have hd : decide (0 < y) = true := by simpa using hp
            have hy0 : (y == 0) = false := by simp; omega
            have hd0 : 0 ≤ x / y := Int.ediv_nonneg x0 y0
            by_cases hg : x < m' * y
            · have hg' : decide (x < m' * y) = true := by simpa using hg
              go_wp2
              go_quiet (fail)
              go_wp2
              go_quiet (fail)
              go_wp2
              have hlt' := (most_lt (k := m') (x := x) hp).1 hg
              go_roundw
              case rel => exact ⟨x / y, rfl, hd0, by omega, by first | exact hq'.drewN _ | exact (hq'.drewN _).drewN _, .inr ⟨hp, rfl, by rcases HO.out with h | ⟨_, h, _⟩ <;> omega⟩⟩
              case measure => simp [intOf]; omega
            · have hg' : decide (x < m' * y) = false := by simpa using hg
              go_wp2
              go_quiet (fail)
              go_wp2
              go_roundw
              case rel => exact ⟨k + 1, m', by omega, by go_num, rfl, p0, p1, hq.trans (hq'.drewN _), show _ = _ by
                rw [← hs.out, HS.out, if_pos hp]; congr 1
                have hh : ¬ x / y < m' := fun h => absurd ((most_lt (k := m') (x := x) hp).2 h) (by omega)
                rcases HO.out with h | ⟨_, h, _⟩ <;> omega⟩
              case measure => simp [intOf]; omega
          · have hd : decide (0 < y) = false := by simpa using hp
            go_wp2
            go_quiet (fail)
            go_wp2
            go_roundw
            case rel => exact ⟨k + 1, m', by omega, by go_num, rfl, p0, p1, hq.trans (hq'.drewN _), show _ = _ by
              rw [← hs.out, HS.out, if_neg (by omega)]; congr 1
              rcases HO.out with h | ⟨_, h, _⟩ <;> omega⟩
            case measure => simp [intOf]; omega
      · have HF := Lib.hid (show m = mostB l1 l2 by rw [HM.out, ← hs.out, drop_end h1.len (by omega), mostF_nil])
        go_wp2
        go_ret
        exact ⟨ret_int HF.out, hq⟩
end Go.Proofs.Ytbpfdogjjoceaaa
