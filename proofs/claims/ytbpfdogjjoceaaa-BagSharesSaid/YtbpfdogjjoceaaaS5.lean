/- Contract of math/bits.Div64. -/
import Derived.Test.YtbpfdogjjoceaaaSh
import Derived.Test.YtbpfdogjjoceaaaS3
import Derived.Deep.DeepCutAuto
import Derived.Deep.CutBlock
import Derived.Laws.Bits64b
namespace Go.Proofs.Ytbpfdogjjoceaaa
open Go.RowKit

theorem bitLen_facts {x : Nat} (h0 : 0 < x) (h1 : x < 18446744073709551616) : ∃ k : Nat, Lib.bitLen x = k + 1 ∧ k < 64 ∧ 2 ^ k ≤ x ∧ x < 2 ^ (k + 1) := by
  have key : ∀ k : Nat, k ≤ 63 → x < 2 ^ (k + 1) → 2 ^ k ≤ x → Lib.bitLen x = k + 1 := by
    intro k hk h2 h3
    have := Lib.bitLen_shift k x h3 h1
    have e : x / 2 ^ k = 1 := by
      have hp : 0 < 2 ^ k := Nat.pow_pos (by omega)
      apply Nat.div_eq_of_lt_le
      · omega
      · rw [Nat.pow_succ] at h2; omega
    rw [this, e]; rfl
  have ex : ∀ m : Nat, m ≤ 64 → x < 2 ^ m → ∃ k, k < 64 ∧ x < 2 ^ (k + 1) ∧ 2 ^ k ≤ x := by
    intro m
    induction m with
    | zero => intro _ h; simp at h; omega
    | succ m ih =>
      intro hm h
      by_cases hlt : x < 2 ^ m
      · exact ih (by omega) hlt
      · exact ⟨m, by omega, h, by omega⟩
  obtain ⟨k, hk, h2, h3⟩ := ex 64 (Nat.le_refl _) (by simpa using h1)
  exact ⟨k, key k (by omega) h2 h3, hk, h3, h2⟩


/-- y moved up until its highest bit is set -/
theorem norm_facts {y : Int} {k s : Nat} (hy : 0 < y) (h1 : 2 ^ k ≤ y.toNat) (h2 : y.toNat < 2 ^ (k + 1)) (hk : k < 64) (hs : 63 - k = s) :
    IntKind.u64.wrap (y * 2 ^ s) = y * 2 ^ s ∧ 9223372036854775808 ≤ y * 2 ^ s ∧ y * 2 ^ s ≤ 18446744073709551615 := by
  obtain ⟨n, rfl⟩ := Int.eq_ofNat_of_zero_le (Int.le_of_lt hy)
  rw [Int.toNat_natCast] at h1 h2
  have e : ((n : Int) * 2 ^ s) = ((n * 2 ^ s : Nat) : Int) := by simp
  have g1 : 2 ^ k * 2 ^ s ≤ n * 2 ^ s := Nat.mul_le_mul_right _ h1
  have g2 : n * 2 ^ s < 2 ^ (k + 1) * 2 ^ s := Nat.mul_lt_mul_of_pos_right h2 (Nat.pow_pos (by omega))
  rw [← Nat.pow_add] at g1 g2
  rw [show k + s = 63 by omega] at g1
  rw [show k + 1 + s = 64 by omega] at g2
  rw [e, IntKind.wrap_u64]
  omega
theorem or_facts {hi lo y : Int} {s : Nat} (hs : s ≤ 63) (h0 : 0 ≤ hi) (hl0 : 0 ≤ lo) (hl1 : lo ≤ 18446744073709551615) (hy : hi < y) (hY : y * 2 ^ s ≤ 18446744073709551615) :
    bits .or .u64 (IntKind.u64.wrap (hi * 2 ^ s)) (lo / 2 ^ (64 - s)) = hi * 2 ^ s + lo / 2 ^ (64 - s) ∧ hi * 2 ^ s + lo / 2 ^ (64 - s) < y * 2 ^ s ∧ 0 ≤ hi * 2 ^ s + lo / 2 ^ (64 - s) := by
  obtain ⟨a, rfl⟩ := Int.eq_ofNat_of_zero_le h0
  obtain ⟨b, rfl⟩ := Int.eq_ofNat_of_zero_le hl0
  obtain ⟨c, rfl⟩ := Int.eq_ofNat_of_zero_le (show 0 ≤ y by omega)
  have e1 : ((a : Int) * 2 ^ s) = ((a * 2 ^ s : Nat) : Int) := by simp
  have e2 : ((c : Int) * 2 ^ s) = ((c * 2 ^ s : Nat) : Int) := by simp
  have e3 : ((b : Int) / 2 ^ (64 - s)) = ((b / 2 ^ (64 - s) : Nat) : Int) := by simp
  have hac : a + 1 ≤ c := by omega
  have g1 : (a + 1) * 2 ^ s ≤ c * 2 ^ s := Nat.mul_le_mul_right _ hac
  have g2 : b / 2 ^ (64 - s) < 2 ^ s := by
    apply Nat.div_lt_of_lt_mul
    rw [← Nat.pow_add, show 64 - s + s = 64 by omega]; omega
  rw [e2] at hY
  rw [Nat.add_mul, Nat.one_mul] at g1
  have ho := Nat.two_pow_add_eq_or_of_lt g2 a
  rw [Nat.mul_comm] at ho
  rw [e1, e2, e3, IntKind.wrap_u64]
  clear e1 e2 e3
  generalize a * 2 ^ s = a' at *
  generalize c * 2 ^ s = c' at *
  generalize b / 2 ^ (64 - s) = b' at *
  generalize 2 ^ s = p at *
  have hb : a' < 18446744073709551616 := by omega
  rw [show ((a' : Nat) : Int) % 18446744073709551616 = (a' : Int) by omega]
  rw [bits_or_u64_nat _ _ hb (by omega), ← ho]
  omega
theorem and_mask {a : Int} (h0 : 0 ≤ a) (h1 : a ≤ 18446744073709551615) : bits .and .u64 a 4294967295 = a % 4294967296 := by
  obtain ⟨n, rfl⟩ := Int.eq_ofNat_of_zero_le h0
  have h := bits_and_u64_nat n 4294967295 (by omega) (by omega)
  have e : n &&& 4294967295 = n % 4294967296 := Nat.and_two_pow_sub_one_eq_mod n 32
  rw [e] at h
  exact h.trans (by omega)
theorem up_facts {hi lo : Int} {s : Nat} (hs : s ≤ 63) : (hi * 18446744073709551616 + lo) * 2 ^ s = (hi * 2 ^ s + lo / 2 ^ (64 - s)) * 18446744073709551616 + IntKind.u64.wrap (lo * 2 ^ s) := by
  rw [IntKind.wrap_u64]
  have hp : (18446744073709551616 : Int) = 2 ^ (64 - s) * 2 ^ s := by rw [← Int.pow_add, show 64 - s + s = 64 by omega]; rfl
  have hd : lo * 2 ^ s / 18446744073709551616 = lo / 2 ^ (64 - s) := by
    conv => lhs; rw [hp]
    exact Int.mul_ediv_mul_of_pos_left _ _ (Int.pow_pos (by omega))
  have := Int.mul_ediv_add_emod (lo * 2 ^ s) 18446744073709551616
  rw [hd] at this
  grind
theorem two_digits {U Y L1 L0 : Int} (hY : 0 < Y) : ((U * 4294967296 + L1) * 4294967296 + L0) / Y = (U * 4294967296 + L1) / Y * 4294967296 + ((U * 4294967296 + L1) % Y * 4294967296 + L0) / Y ∧ ((U * 4294967296 + L1) * 4294967296 + L0) % Y = ((U * 4294967296 + L1) % Y * 4294967296 + L0) % Y := by
  have h := Int.mul_ediv_add_emod (U * 4294967296 + L1) Y
  generalize (U * 4294967296 + L1) / Y = q at *
  generalize (U * 4294967296 + L1) % Y = V at *
  rw [← h]
  have e : (Y * q + V) * 4294967296 + L0 = (V * 4294967296 + L0) + Y * (q * 4294967296) := by grind
  rw [e, Int.add_mul_ediv_left _ _ (by omega), Int.add_mul_emod_self_left]
  omega
theorem down_facts {X y : Int} {s : Nat} : X * 2 ^ s / (y * 2 ^ s) = X / y ∧ X * 2 ^ s % (y * 2 ^ s) / 2 ^ s = X % y := by
  have hp : (0 : Int) < 2 ^ s := Int.pow_pos (by omega)
  refine ⟨Int.mul_ediv_mul_of_pos_left _ _ hp, ?_⟩
  rw [Int.mul_comm X, Int.mul_comm y, Int.mul_emod_mul_of_pos _ _ hp, Int.mul_ediv_cancel_left _ (by omega)]
theorem start_facts {U y1 : Int} (hy : 2147483648 ≤ y1) (hU0 : 0 ≤ U) (hU1 : U ≤ 18446744073709551615) :
    IntKind.u64.wrap (U - IntKind.u64.wrap (U / y1 * y1)) = U % y1 ∧ 0 ≤ U % y1 ∧ U % y1 < y1 ∧ U = U / y1 * y1 + U % y1 ∧ 0 ≤ U / y1 ∧ U / y1 ≤ U := by
  have h := Int.mul_ediv_add_emod U y1
  have h1 := Int.emod_nonneg U (show y1 ≠ 0 by omega)
  have h2 := Int.emod_lt_of_pos U (show 0 < y1 by omega)
  have h3 := Int.ediv_nonneg hU0 (show 0 ≤ y1 by omega)
  have h4 := Int.ediv_le_self y1 hU0
  rw [Int.mul_comm] at h
  have h5 := Int.mul_nonneg h3 (show 0 ≤ y1 by omega)
  generalize U / y1 * y1 = p at *
  generalize U / y1 = q at *
  generalize U % y1 = r at *
  rw [IntKind.wrap_u64, IntKind.wrap_u64]
  omega
theorem kd_start {U Y y1 y0 u1 B Q : Int} (hB : 0 < B) (hY : Y = y1 * B + y0) (h1 : 0 < y1) (h0 : 0 ≤ y0) (hu : u1 < B) (hY0 : 0 < Y) (hU : 0 ≤ U) (hu0 : 0 ≤ u1) (hQ : (U * B + u1) / Y = Q) : Q ≤ U / y1 := by
  have a1 : Q * Y ≤ U * B + u1 := by rw [← hQ]; exact Int.ediv_mul_le _ (by omega)
  have a2 : 0 ≤ Q := by rw [← hQ]; exact Int.ediv_nonneg (Int.add_nonneg (Int.mul_nonneg hU (by omega)) hu0) (by omega)
  have a3 : Q * Y = Q * y1 * B + Q * y0 := by rw [hY]; grind
  have a4 := Int.mul_nonneg a2 h0
  rw [Int.le_ediv_iff_mul_le h1]
  rcases Int.lt_or_le U (Q * y1) with h | h
  · have := Int.mul_le_mul_of_nonneg_right (show U + 1 ≤ Q * y1 by omega) (show 0 ≤ B by omega)
    rw [Int.add_mul, Int.one_mul] at this
    omega
  · exact h
/-- the wrapped rest is the rest -/
theorem rest_facts {U Y u1 q : Int} (hY0 : 0 < Y) (hY1 : Y ≤ 18446744073709551615) (hq : (U * 4294967296 + u1) / Y = q) :
    IntKind.u64.wrap (IntKind.u64.wrap (IntKind.u64.wrap (U * 4294967296) + u1) - IntKind.u64.wrap (q * Y)) = (U * 4294967296 + u1) % Y := by
  have h := Int.mul_ediv_add_emod (U * 4294967296 + u1) Y
  have h1 := Int.emod_nonneg (U * 4294967296 + u1) (show Y ≠ 0 by omega)
  have h2 := Int.emod_lt_of_pos (U * 4294967296 + u1) hY0
  rw [hq, Int.mul_comm] at h
  generalize (U * 4294967296 + u1) % Y = r at *
  generalize q * Y = p at *
  rw [IntKind.wrap_u64, IntKind.wrap_u64, IntKind.wrap_u64, IntKind.wrap_u64]
  omega
theorem small_prod {q y0 : Int} (h0 : 0 ≤ q) (h1 : q < 4294967296) (g0 : 0 ≤ y0) (g1 : y0 ≤ 4294967295) : 0 ≤ q * y0 ∧ q * y0 ≤ 18446744065119617025 := by
  refine ⟨Int.mul_nonneg h0 g0, ?_⟩
  have a1 : q * y0 ≤ 4294967295 * y0 := Int.mul_le_mul_of_nonneg_right (by omega) g0
  omega

set_option maxHeartbeats 1000000 in
set_option maxRecDepth 100000 in
theorem div64_hi (hi lo y : Int) (w : World) (h0 : 0 < hi) (hl0 : 0 ≤ lo) (hl1 : lo ≤ 18446744073709551615) (hy : hi < y) (hy1 : y ≤ 18446744073709551615) :
    Calls Try.prog 84 #[.int .u64 hi, .int .u64 lo, .int .u64 y] w fun e w' => e = .returned (.tuple #[.int .u64 ((hi * 18446744073709551616 + lo) / y), .int .u64 ((hi * 18446744073709551616 + lo) % y)]) ∧ w = w' := by
  have b1 : (y == 0) = false := by simp; omega
  have b2 : decide (y ≤ hi) = false := by simp; omega
  have b3 : (hi == 0) = false := by simp; omega
  obtain ⟨k, hk, hk1, hk2, hk3⟩ := bitLen_facts (x := y.toNat) (by omega) (by omega)
  obtain ⟨s, hs⟩ : ∃ s : Nat, 63 - k = s := ⟨_, rfl⟩
  have hs1 : s ≤ 63 := by omega
  have hlz : (64 - (((k + 1 : Nat)) : Int)) = (s : Int) := by omega
  obtain ⟨n1, n2, n3⟩ := norm_facts (by omega) hk2 hk3 hk1 hs
  obtain ⟨o1, o2, o3⟩ := or_facts hs1 (Int.le_of_lt h0) hl0 hl1 hy n3
  have up := up_facts (hi := hi) (lo := lo) hs1
  obtain ⟨d1, d2⟩ := down_facts (X := hi * 18446744073709551616 + lo) (y := y) (s := s)
  rw [up] at d1 d2
  rw [← d1, ← d2]
  have hL : 0 ≤ IntKind.u64.wrap (lo * 2 ^ s) ∧ IntKind.u64.wrap (lo * 2 ^ s) ≤ 18446744073709551615 := by rw [IntKind.wrap_u64]; omega
  obtain ⟨hL0, hL1⟩ := hL
  have HK := Lib.hid hk
  have HZ := Lib.hid hlz
  clear hk hk2 hk3 d1 d2 up hs hlz
  generalize hYe : y * 2 ^ s = Y at *
  generalize hUe : hi * 2 ^ s + lo / 2 ^ (64 - s) = U at *
  generalize hLe : IntKind.u64.wrap (lo * 2 ^ s) = L at *
  clear hUe
  have b4 : (Y / 4294967296 == 0) = false := by simp; omega
  have hA : bits .and .u64 Y 4294967295 = Y % 4294967296 := and_mask (by omega) (by omega)
  have hB : bits .and .u64 L 4294967295 = L % 4294967296 := and_mask (by omega) (by omega)
  obtain ⟨y1, hy1e⟩ : ∃ y1, Y / 4294967296 = y1 := ⟨_, rfl⟩
  obtain ⟨y0, hy0e⟩ : ∃ y0, Y % 4294967296 = y0 := ⟨_, rfl⟩
  obtain ⟨u1, hu1e⟩ : ∃ u1, L / 4294967296 = u1 := ⟨_, rfl⟩
  obtain ⟨u0, hu0e⟩ : ∃ u0, L % 4294967296 = u0 := ⟨_, rfl⟩
  have HYe := Lib.hid (show Y = y1 * 4294967296 + y0 by omega)
  have HLe := Lib.hid (show U * 18446744073709551616 + L = (U * 4294967296 + u1) * 4294967296 + u0 by omega)
  have p1 : 2147483648 ≤ y1 := by omega
  have p2 : y1 ≤ 4294967295 := by omega
  have p3 : 0 ≤ y0 := by omega
  have p4 : y0 ≤ 4294967295 := by omega
  have p5 : 0 ≤ u1 := by omega
  have p6 : u1 ≤ 4294967295 := by omega
  have p7 : 0 ≤ u0 := by omega
  have p8 : u0 ≤ 4294967295 := by omega
  have p9 : U ≤ 18446744073709551615 := by omega
  rw [hy1e] at b4
  obtain ⟨s1, s2, s3, s4, s5, s6⟩ := start_facts p1 o3 p9
  obtain ⟨q0, hq0⟩ : ∃ q, U / y1 = q := ⟨_, rfl⟩
  obtain ⟨r0, hr0⟩ : ∃ r, U % y1 = r := ⟨_, rfl⟩
  rw [hq0, hr0] at s1
  rw [hq0] at s4 s5 s6
  rw [hr0] at s2 s3 s4
  clear hr0
  have S4 := Lib.hid s4
  clear s4
  obtain ⟨Q1, hQ1⟩ : ∃ q, (U * 4294967296 + u1) / Y = q := ⟨_, rfl⟩
  have HQ1 := Lib.hid hQ1
  have HQ0 := Lib.hid (show Q1 ≤ q0 by rw [← hq0]; exact kd_start (by omega) HYe.out (by omega) p3 (by omega) (by omega) o3 p5 hQ1)
  have q1a : 0 ≤ Q1 := by rw [← hQ1]; exact Int.ediv_nonneg (by omega) (by omega)
  have q1b : Q1 < 4294967296 := by rw [← hQ1]; exact kd_lt (by omega) (by omega) (by omega) (by omega)
  clear hQ1
  go_enter Try.func84, Try.ntmps84
  go_wp2_with fail
  refine (Try.bits_LeadingZeros64 y _ (by omega) hy1).mono ?_
  rintro e w' ⟨rfl, rfl⟩
  rw [HK.out, HZ.out]
  go_upto_block 0 with fail
  have Hq0 := Lib.hid hq0
  clear hq0 s1
  go_cut [15] (fun t wx => t = .int .u64 Q1 ∧ w' = wx)
  case first =>
    go_wp2_with fail
    go_loop [15, 16] (fun t v => ∃ q r : Int, t = .int .u64 q ∧ v = .int .u64 r ∧ 0 ≤ q ∧ q ≤ 18446744073709551615 ∧ 0 ≤ r ∧ r ≤ 4294967295 ∧ Hid (U = q * y1 + r) ∧ Hid (Q1 ≤ q)) (fun t _ => (intOf t).toNat)
    case atStart => exact ⟨q0, r0, congrArg (Value.int .u64) Hq0.out, rfl, by omega, by omega, by omega, by omega, S4, HQ0⟩
    case round =>
      obtain ⟨q, r, rfl, rfl, c1, c2, c3, c4, hI, hJ⟩ := hrel
      have c1' : Q1 ≤ q := hJ.out
      have HN := Lib.hid (show U = (q - 1) * y1 + (r + y1) by have := hI.out; grind)
      by_cases k1 : 4294967296 ≤ q
      · have d1 : decide (4294967296 ≤ q) = true := by simpa using k1
        have HM := Lib.hid (show Q1 ≤ q - 1 by omega)
        by_cases k3 : 4294967296 ≤ r + y1
        · have d3 : decide (4294967296 ≤ r + y1) = true := by simpa using k3
          have HE := Lib.hid (show q - 1 = Q1 by
            have := kd_far (by omega) (by omega) p3 (by omega) HYe.out o2 p5 HN.out k3
            have := kd_fit (by omega) HYe.out HN.out this.2
            have := HQ1.out; have := HM.out; omega)
          go_wp2
          go_meet
          exact ⟨congrArg (Value.int .u64) HE.out, rfl⟩
        · have d3 : decide (4294967296 ≤ r + y1) = false := by simpa using k3
          go_wp2
          go_round
          case rel => exact ⟨q - 1, r + y1, rfl, rfl, by omega, by omega, by omega, by omega, HN, HM⟩
          case measure => simp [intOf]; omega
      · have d1 : decide (4294967296 ≤ q) = false := by simpa using k1
        obtain ⟨m1, m2⟩ := small_prod c1 (by omega) p3 p4
        by_cases k2 : 4294967296 * r + u1 < q * y0
        · have d2 : decide (4294967296 * r + u1 < q * y0) = true := by simpa using k2
          have HM := Lib.hid (show Q1 ≤ q - 1 by rw [← HQ1.out]; exact kd_over (by omega) HYe.out hI.out (by omega))
          have hq1 : 1 ≤ q := by have := HM.out; omega
          by_cases k3 : 4294967296 ≤ r + y1
          · have d3 : decide (4294967296 ≤ r + y1) = true := by simpa using k3
            have HE := Lib.hid (show q - 1 = Q1 by
              have := kd_far (by omega) (by omega) p3 (by omega) HYe.out o2 p5 HN.out k3
              have := kd_fit (by omega) HYe.out HN.out this.2
              have := HQ1.out; have := HM.out; omega)
            go_wp2
            go_meet
            exact ⟨congrArg (Value.int .u64) HE.out, rfl⟩
          · have d3 : decide (4294967296 ≤ r + y1) = false := by simpa using k3
            go_wp2
            go_round
            case rel => exact ⟨q - 1, r + y1, rfl, rfl, by omega, by omega, by omega, by omega, HN, HM⟩
            case measure => simp [intOf]; omega
        · have d2 : decide (4294967296 * r + u1 < q * y0) = false := by simpa using k2
          have HE := Lib.hid (show q = Q1 by
            have := kd_fit (u1 := u1) (by omega) HYe.out hI.out (by omega)
            have := HQ1.out; omega)
          go_wp2
          go_meet
          exact ⟨congrArg (Value.int .u64) HE.out, rfl⟩
  case rest =>
    obtain ⟨rfl, rfl⟩ := hcut
    obtain ⟨V, hV⟩ : ∃ V, (U * 4294967296 + u1) % Y = V := ⟨_, rfl⟩
    have rf := rest_facts (show 0 < Y by omega) n3 HQ1.out
    rw [hV] at rf
    have HV := Lib.hid hV
    have v0 : 0 ≤ V := by rw [← hV]; exact Int.emod_nonneg _ (by omega)
    have v1 : V < Y := by rw [← hV]; exact Int.emod_lt_of_pos _ (by omega)
    clear hV
    obtain ⟨s1, s2, s3, s4, s5, s6⟩ := start_facts p1 v0 (show V ≤ 18446744073709551615 by omega)
    obtain ⟨q0', hq0⟩ : ∃ q, V / y1 = q := ⟨_, rfl⟩
    obtain ⟨r0', hr0⟩ : ∃ r, V % y1 = r := ⟨_, rfl⟩
    rw [hq0, hr0] at s1
    rw [hq0] at s4 s5 s6
    rw [hr0] at s2 s3 s4
    clear hr0
    have S4 := Lib.hid s4
    clear s4
    obtain ⟨Q0, hQ0⟩ : ∃ q, (V * 4294967296 + u0) / Y = q := ⟨_, rfl⟩
    have HQ0 := Lib.hid hQ0
    have HQs := Lib.hid (show Q0 ≤ q0' by rw [← hq0]; exact kd_start (by omega) HYe.out (by omega) p3 (by omega) (by omega) v0 p7 hQ0)
    have z1 : 0 ≤ Q0 := by rw [← hQ0]; exact Int.ediv_nonneg (by omega) (by omega)
    have z2 : Q0 < 4294967296 := by rw [← hQ0]; exact kd_lt (by omega) (by omega) (by omega) (by omega)
    clear hQ0
    have Hq0 := Lib.hid hq0
    go_upto_block 2 with fail
    clear hq0 s1 rf
    go_cut [18] (fun t wx => t = .int .u64 Q0 ∧ w' = wx)
    case first =>
      go_wp2_with fail
      go_loop [18, 16] (fun t v => ∃ q r : Int, t = .int .u64 q ∧ v = .int .u64 r ∧ 0 ≤ q ∧ q ≤ 18446744073709551615 ∧ 0 ≤ r ∧ r ≤ 4294967295 ∧ Hid (V = q * y1 + r) ∧ Hid (Q0 ≤ q)) (fun t _ => (intOf t).toNat)
      case atStart => exact ⟨q0', r0', congrArg (Value.int .u64) Hq0.out, rfl, by omega, by omega, by omega, by omega, S4, HQs⟩
      case round =>
        obtain ⟨q, r, rfl, rfl, c1, c2, c3, c4, hI, hJ⟩ := hrel
        have c1' : Q0 ≤ q := hJ.out
        have HN := Lib.hid (show V = (q - 1) * y1 + (r + y1) by have := hI.out; grind)
        by_cases k1 : 4294967296 ≤ q
        · have d1 : decide (4294967296 ≤ q) = true := by simpa using k1
          have HM := Lib.hid (show Q0 ≤ q - 1 by omega)
          by_cases k3 : 4294967296 ≤ r + y1
          · have d3 : decide (4294967296 ≤ r + y1) = true := by simpa using k3
            have HE := Lib.hid (show q - 1 = Q0 by
              have := kd_far (by omega) (by omega) p3 (by omega) HYe.out v1 p7 HN.out k3
              have := kd_fit (by omega) HYe.out HN.out this.2
              have := HQ0.out; have := HM.out; omega)
            go_wp2
            go_meet
            exact ⟨congrArg (Value.int .u64) HE.out, rfl⟩
          · have d3 : decide (4294967296 ≤ r + y1) = false := by simpa using k3
            go_wp2
            go_round
            case rel => exact ⟨q - 1, r + y1, rfl, rfl, by omega, by omega, by omega, by omega, HN, HM⟩
            case measure => simp [intOf]; omega
        · have d1 : decide (4294967296 ≤ q) = false := by simpa using k1
          obtain ⟨m1, m2⟩ := small_prod c1 (by omega) p3 p4
          by_cases k2 : 4294967296 * r + u0 < q * y0
          · have d2 : decide (4294967296 * r + u0 < q * y0) = true := by simpa using k2
            have HM := Lib.hid (show Q0 ≤ q - 1 by rw [← HQ0.out]; exact kd_over (by omega) HYe.out hI.out (by omega))
            have hq1 : 1 ≤ q := by have := HM.out; omega
            by_cases k3 : 4294967296 ≤ r + y1
            · have d3 : decide (4294967296 ≤ r + y1) = true := by simpa using k3
              have HE := Lib.hid (show q - 1 = Q0 by
                have := kd_far (by omega) (by omega) p3 (by omega) HYe.out v1 p7 HN.out k3
                have := kd_fit (by omega) HYe.out HN.out this.2
                have := HQ0.out; have := HM.out; omega)
              go_wp2
              go_meet
              exact ⟨congrArg (Value.int .u64) HE.out, rfl⟩
            · have d3 : decide (4294967296 ≤ r + y1) = false := by simpa using k3
              go_wp2
              go_round
              case rel => exact ⟨q - 1, r + y1, rfl, rfl, by omega, by omega, by omega, by omega, HN, HM⟩
              case measure => simp [intOf]; omega
          · have d2 : decide (4294967296 * r + u0 < q * y0) = false := by simpa using k2
            have HE := Lib.hid (show q = Q0 by
              have := kd_fit (u1 := u0) (by omega) HYe.out hI.out (by omega)
              have := HQ0.out; omega)
            go_wp2
            go_meet
            exact ⟨congrArg (Value.int .u64) HE.out, rfl⟩
    case rest =>
      obtain ⟨rfl, rfl⟩ := hcut
      have rf := rest_facts (show 0 < Y by omega) n3 HQ0.out
      have HR := Lib.hid (two_digits (U := U) (Y := Y) (L1 := u1) (L0 := u0) (by omega))
      go_wp2_with fail
      go_ret2
      exact ⟨ret_two (by rw [HLe.out, HR.out.1, HQ1.out, HV.out, HQ0.out]) (by rw [HLe.out, HR.out.2, HV.out]), rfl⟩

set_option maxHeartbeats 400000 in
theorem div64_lo (lo y : Int) (w : World) (hl0 : 0 ≤ lo) (hl1 : lo ≤ 18446744073709551615) (hy : 0 < y) (hy1 : y ≤ 18446744073709551615) :
    Calls Try.prog 84 #[.int .u64 0, .int .u64 lo, .int .u64 y] w fun e w' => e = .returned (.tuple #[.int .u64 (lo / y), .int .u64 (lo % y)]) ∧ Q w w' := by
  have b1 : (y == 0) = false := by simp; omega
  have b2 : decide (y ≤ 0) = false := by simp; omega
  have hd0 := Int.ediv_nonneg hl0 (Int.le_of_lt hy)
  have hd1 := Int.ediv_le_self y hl0
  go_enter Try.func84, Try.ntmps84
  go_wp2_with fail
  go_quiet (fail)
  go_wp2_with fail
  go_ret2
  exact ⟨ret_two rfl rfl, (Q.refl _).drewN _⟩
theorem div64_c (hi lo y : Int) (w : World) (h0 : 0 ≤ hi) (hl0 : 0 ≤ lo) (hl1 : lo ≤ 18446744073709551615) (hy : hi < y) (hy1 : y ≤ 18446744073709551615) :
    Calls Try.prog 84 #[.int .u64 hi, .int .u64 lo, .int .u64 y] w fun e w' => e = .returned (.tuple #[.int .u64 ((hi * 18446744073709551616 + lo) / y), .int .u64 ((hi * 18446744073709551616 + lo) % y)]) ∧ Q w w' := by
  by_cases h : 0 < hi
  · exact (div64_hi hi lo y w h hl0 hl1 hy hy1).mono fun _ _ ⟨a, b⟩ => ⟨a, b ▸ Q.refl _⟩
  · obtain rfl : hi = 0 := by omega
    rw [Int.zero_mul, Int.zero_add]
    exact div64_lo lo y w hl0 hl1 hy hy1
end Go.Proofs.Ytbpfdogjjoceaaa
