/- The walks of SharePart and ShareRest. -/
import Derived.Test.YtkbdmicnmddikaaS11
namespace Go.Proofs.Ytkbdmicnmddikaa
open Go.RowKit

theorem quietQ {P : Program} {f : FuncId} {args : Array Value} {w : World} {n : Nat} {v : Value} (h : Calls P f args (w.drewN n) fun e w' => e = .returned v ∧ Q (w.drewN n) w') : Calls P f args (w.drewN n) fun e w'' => e = .returned v ∧ ∃ m, w'' = w.drewN m :=
  h.mono fun _ _ ⟨he, hm⟩ => ⟨he, by obtain ⟨m, rfl⟩ := hm; exact ⟨n + m, by rw [World.drewN_drewN]⟩⟩
theorem quietS {P : Program} {f : FuncId} {args : Array Value} {w : World} {n : Nat} {v : Value} (h : Calls P f args (w.drewN n) fun e w' => e = .returned v ∧ (w.drewN n) = w') : Calls P f args (w.drewN n) fun e w'' => e = .returned v ∧ ∃ m, w'' = w.drewN m :=
  h.mono fun _ _ ⟨he, hm⟩ => ⟨he, n, hm.symm⟩

theorem nums_at (k : IntKind) (w : World) (z : Nat) (hz : w.heap.size = z) (l : List Int) (T : TypeId) (hl : l.length ≤ 1000) (hw : ∀ x ∈ l, (Lit.int k x).wf = true) : Nums k (w.alloc (.cells (l.map (Value.int k)).toArray T)) (some ⟨z, 0, none⟩) l.length l.length l := hz ▸ nums_new k w l T hl hw
theorem rest_plain {t n d : Int} (ht0 : 0 ≤ t) (ht1 : t ≤ 1099511627776) (hn0 : 0 ≤ n) (hn1 : n ≤ d) (hd0 : 0 < d) (hd1 : d ≤ 1152921504606846976) :
    divE t n d = 0 ∧ ceilE t (d - n) d = 0 ∧ divE t (n / 2) d = 0 ∧ divQ t n d + ceilQ t (d - n) d = t ∧ divQ t (n / 2) d ≤ divQ t n d ∧ divQ t n d ≤ t := by
  have fit : ∀ m, 0 ≤ m → m ≤ d → divOk t m d = true ∧ divFit t m d = true := fun m h0 h1 => by
    refine ⟨divOk_iff.2 ⟨⟨ht0, ht1⟩, ⟨h0, by omega⟩, hd0, hd1⟩, ?_⟩
    have := part_le ht0 h1 hd0
    simp only [divFit, decide_eq_true_eq]; omega
  obtain ⟨a1, a2⟩ := fit n hn0 hn1
  obtain ⟨b1, b2⟩ := fit (d - n) (by omega) (by omega)
  obtain ⟨c1, c2⟩ := fit (n / 2) (by omega) (by omega)
  have hq1 : divQ t n d = t * n / d := by simp [divQ, a1, a2]
  have hq2 : divQ t (d - n) d = t * (d - n) / d := by simp [divQ, b1, b2]
  have hr2 : divR t (d - n) d = t * (d - n) % d := by simp [divR, b1, b2]
  have hq3 : divQ t (n / 2) d = t * (n / 2) / d := by simp [divQ, c1, c2]
  have he1 : divE t n d = 0 := by simp [divE, a1, a2]
  have he2 : divE t (d - n) d = 0 := by simp [divE, b1, b2]
  have he3 : divE t (n / 2) d = 0 := by simp [divE, c1, c2]
  have hc : ceilN t (d - n) d = t - t * n / d := by
    rw [ceilN, hq2, hr2]
    have e0 : t * (d - n) = t * d - t * n := by grind
    rw [e0]
    have m1 := Int.mul_ediv_add_emod (t * n) d
    have m2 := Int.mul_ediv_add_emod (t * d - t * n) d
    have p1 := Int.emod_nonneg (t * n) (show d ≠ 0 by omega)
    have p2 := Int.emod_lt_of_pos (t * n) hd0
    have p3 := Int.emod_nonneg (t * d - t * n) (show d ≠ 0 by omega)
    have p4 := Int.emod_lt_of_pos (t * d - t * n) hd0
    generalize (t * d - t * n) / d = x at *
    generalize (t * d - t * n) % d = r at *
    generalize t * n / d = y at *
    generalize t * n % d = s at *
    have e1 : d * (x + y - t) = - (r + s) := by grind
    have lo : x + y - t > -2 := by
      rcases Int.lt_or_le (-2) (x + y - t) with h | h
      · exact h
      · have := Int.mul_le_mul_of_nonneg_left h (show 0 ≤ d by omega); omega
    have hi : x + y - t < 1 := by
      rcases Int.lt_or_le (x + y - t) 1 with h | h
      · exact h
      · have := Int.mul_le_mul_of_nonneg_left h (show 0 ≤ d by omega); omega
    by_cases hr : 0 < r
    · rw [if_pos hr]
      have : x + y - t ≠ 0 := fun h => by rw [h] at e1; omega
      omega
    · rw [if_neg hr]
      have : x + y - t ≠ -1 := fun h => by rw [h] at e1; omega
      omega
  have hq0 := Int.ediv_nonneg (Int.mul_nonneg ht0 hn0) (Int.le_of_lt hd0)
  have hle := part_le ht0 hn1 hd0
  refine ⟨he1, ?_, he3, ?_, ?_, by rw [hq1]; exact hle⟩
  · rw [ceilE, if_pos he2, hc, if_pos (by omega)]
  · rw [ceilQ, if_pos ⟨he2, by rw [hc]; omega⟩, hc, hq1]; omega
  · rw [hq1, hq3]
    exact Int.ediv_le_ediv hd0 (Int.mul_le_mul_of_nonneg_left (by omega) ht0)

set_option maxHeartbeats 1000000 in
theorem shareRest_w (total num den : Int) (w : World) (h1 : -9223372036854775808 ≤ total) (h2 : total ≤ 9223372036854775807) (g1 : -9223372036854775808 ≤ num) (g2 : num ≤ 9223372036854775807) (k1 : -9223372036854775808 ≤ den) (k2 : den ≤ 9223372036854775807) :
    Calls Try.prog 8 #[.int .i64 total, .int .i64 num, .int .i64 den] w (RetT w true) := by
  obtain ⟨t, ht⟩ : ∃ t, total % 1099511627777 = t := ⟨_, rfl⟩
  obtain ⟨d', hd⟩ : ∃ d, den % 1152921504606846976 = d := ⟨_, rfl⟩
  have t0 : 0 ≤ t := by omega
  have t1 : t ≤ 1099511627776 := by omega
  have d0 : 0 ≤ d' := by omega
  have d1 : d' ≤ 1152921504606846975 := by omega
  have n0 := Int.emod_nonneg num (show 1 + d' + 1 ≠ 0 by omega)
  have n1 := Int.emod_lt_of_pos num (show 0 < 1 + d' + 1 by omega)
  obtain ⟨n, hn⟩ : ∃ n, num % (1 + d' + 1) = n := ⟨_, rfl⟩
  rw [hn] at n0 n1
  obtain ⟨p1, p2, p3, p4, p5, p6⟩ := rest_plain t0 t1 n0 (show n ≤ 1 + d' by omega) (by omega) (by omega)
  obtain ⟨r1, r2⟩ := divQ_range t n (1 + d')
  have P1 := Lib.hid (part_c t n (1 + d'))
  have P2 := Lib.hid (ceil_c t (1 + d' - n) (1 + d'))
  have P3 := Lib.hid (part_c t (n / 2) (1 + d'))
  rw [p1] at P1
  rw [p2] at P2
  rw [p3] at P3
  clear p1 p2 p3
  generalize divQ t n (1 + d') = a at *
  generalize ceilQ t (1 + d' - n) (1 + d') = b at *
  generalize divQ t (n / 2) (1 + d') = c at *
  have b1 : (a + b == t) = true := by simpa using p4
  have b2 : decide (c ≤ a) = true := by simpa using p5
  have b3 : 0 ≤ b := by omega
  have b4 : b ≤ 1099511627776 := by omega
  clear p4
  go_enter Try.func8, Try.ntmps8
  go_wp2_with fail
  refine (aroundR total 1099511627777 _ h1 h2 (by omega) (by omega)).mono ?_
  rintro e w' ⟨rfl, rfl⟩
  go_wp2_with fail
  refine (aroundR den 1152921504606846976 _ k1 k2 (by omega) (by omega)).mono ?_
  rintro e w' ⟨rfl, rfl⟩
  go_wp2_with fail
  refine (aroundR num (1 + d' + 1) _ g1 g2 (by omega) (by omega)).mono ?_
  rintro e w' ⟨rfl, rfl⟩
  go_wp2_with fail
  refine (P1.out _).mono ?_
  rintro e w1 ⟨rfl, hQ1⟩
  go_wp2_with fail
  refine (P2.out _).mono ?_
  rintro e w2 ⟨rfl, hQ2⟩
  go_wp2_with fail
  refine (P3.out _).mono ?_
  rintro e w3 ⟨rfl, hQ3⟩
  go_wp2_with fail
  refine (shLives_c _).mono ?_
  rintro e w4 ⟨rfl, hE4⟩
  go_wp2_with fail
  go_ret
  exact ⟨rfl, (((E.of_q hQ1).q hQ2).q hQ3).trans hE4⟩

set_option maxHeartbeats 2000000 in
set_option maxRecDepth 100000 in
theorem sharePart_w (total num den : Int) (w : World) (h1 : -9223372036854775808 ≤ total) (h2 : total ≤ 9223372036854775807) (g1 : -9223372036854775808 ≤ num) (g2 : num ≤ 9223372036854775807) (k1 : -9223372036854775808 ≤ den) (k2 : den ≤ 9223372036854775807) :
    Calls Try.prog 3 #[.int .i64 total, .int .i64 num, .int .i64 den] w (RetT w true) := by
  obtain ⟨t, ht⟩ : ∃ t, total % 1099511627777 = t := ⟨_, rfl⟩
  obtain ⟨n, hn⟩ : ∃ n, num % 1152921504606846977 = n := ⟨_, rfl⟩
  obtain ⟨d, hd⟩ : ∃ d, den % 1152921504606846977 = d := ⟨_, rfl⟩
  have t0 : 0 ≤ t := by omega
  have t1 : t ≤ 1099511627776 := by omega
  have n0 : 0 ≤ n := by omega
  have n1 : n ≤ 1152921504606846976 := by omega
  have d0 : 0 ≤ d := by omega
  have d1 : d ≤ 1152921504606846976 := by omega
  have m0 := Int.emod_nonneg n (show d + 1 ≠ 0 by omega)
  have m1 := Int.emod_lt_of_pos n (show 0 < d + 1 by omega)
  have z1 : (d + 1 == 0) = false := by simp; omega
  have z2 : (d + 1 == -1) = false := by simp; omega
  obtain ⟨m, hm⟩ : ∃ m, n % (d + 1) = m := ⟨_, rfl⟩
  rw [hm] at m0 m1
  go_enter Try.func3, Try.ntmps3
  go_wp2_with fail
  refine (aroundR total 1099511627777 _ h1 h2 (by omega) (by omega)).mono ?_
  rintro e w' ⟨rfl, rfl⟩
  go_wp2_with fail
  refine (aroundR num 1152921504606846977 _ g1 g2 (by omega) (by omega)).mono ?_
  rintro e w' ⟨rfl, rfl⟩
  go_wp2_with fail
  refine (aroundR den 1152921504606846977 _ k1 k2 (by omega) (by omega)).mono ?_
  rintro e w' ⟨rfl, rfl⟩
  go_wp2_with fail
  have N1 := ((nums_at .i64 w w.heap.size rfl [total, t, t, t, t] 3 (by simp) (by simp; exact ⟨wf_of_i64 h1 h2, wf_of_i64 (by omega) (by omega)⟩)).e ((E.refl _).alloc (.cells #[.int .i64 num, .int .i64 n, .int .i64 (n % 1000), .int .i64 n, .int .i64 m] 3))).e ((E.refl _).alloc (.cells #[.int .i64 den, .int .i64 d, .int .i64 (d % 1000), .int .i64 (1 + d % 100), .int .i64 d] 3))
  have N2 := (nums_at .i64 (w.alloc (.cells #[.int .i64 total, .int .i64 t, .int .i64 t, .int .i64 t, .int .i64 t] 3)) (w.heap.size + 1) (by simp) [num, n, n % 1000, n, m] 3 (by simp) (by simp; exact ⟨wf_of_i64 g1 g2, wf_of_i64 (by omega) (by omega), wf_of_i64 (by omega) (by omega), wf_of_i64 (by omega) (by omega), wf_of_i64 (by omega) (by omega)⟩)).e ((E.refl _).alloc (.cells #[.int .i64 den, .int .i64 d, .int .i64 (d % 1000), .int .i64 (1 + d % 100), .int .i64 d] 3))
  have N3 := nums_at .i64 ((w.alloc (.cells #[.int .i64 total, .int .i64 t, .int .i64 t, .int .i64 t, .int .i64 t] 3)).alloc (.cells #[.int .i64 num, .int .i64 n, .int .i64 (n % 1000), .int .i64 n, .int .i64 m] 3)) (w.heap.size + 1 + 1) (by simp) [den, d, d % 1000, 1 + d % 100, d] 3 (by simp) (by simp; exact ⟨wf_of_i64 k1 k2, wf_of_i64 (by omega) (by omega), wf_of_i64 (by omega) (by omega), wf_of_i64 (by omega) (by omega), wf_of_i64 (by omega) (by omega)⟩)
  have hE0 := (((E.refl w).alloc (.cells #[.int .i64 total, .int .i64 t, .int .i64 t, .int .i64 t, .int .i64 t] 3)).alloc (.cells #[.int .i64 num, .int .i64 n, .int .i64 (n % 1000), .int .i64 n, .int .i64 m] 3)).alloc (.cells #[.int .i64 den, .int .i64 d, .int .i64 (d % 1000), .int .i64 (1 + d % 100), .int .i64 d] 3)
  change Nums _ (((w.alloc (.cells #[.int .i64 total, .int .i64 t, .int .i64 t, .int .i64 t, .int .i64 t] 3)).alloc (.cells #[.int .i64 num, .int .i64 n, .int .i64 (n % 1000), .int .i64 n, .int .i64 m] 3)).alloc (.cells #[.int .i64 den, .int .i64 d, .int .i64 (d % 1000), .int .i64 (1 + d % 100), .int .i64 d] 3)) _ 5 5 _ at N1
  change Nums _ (((w.alloc (.cells #[.int .i64 total, .int .i64 t, .int .i64 t, .int .i64 t, .int .i64 t] 3)).alloc (.cells #[.int .i64 num, .int .i64 n, .int .i64 (n % 1000), .int .i64 n, .int .i64 m] 3)).alloc (.cells #[.int .i64 den, .int .i64 d, .int .i64 (d % 1000), .int .i64 (1 + d % 100), .int .i64 d] 3)) _ 5 5 _ at N2
  change Nums _ (((w.alloc (.cells #[.int .i64 total, .int .i64 t, .int .i64 t, .int .i64 t, .int .i64 t] 3)).alloc (.cells #[.int .i64 num, .int .i64 n, .int .i64 (n % 1000), .int .i64 n, .int .i64 m] 3)).alloc (.cells #[.int .i64 den, .int .i64 d, .int .i64 (d % 1000), .int .i64 (1 + d % 100), .int .i64 d] 3)) _ 5 5 _ at N3
  generalize ((w.alloc (.cells #[.int .i64 total, .int .i64 t, .int .i64 t, .int .i64 t, .int .i64 t] 3)).alloc (.cells #[.int .i64 num, .int .i64 n, .int .i64 (n % 1000), .int .i64 n, .int .i64 m] 3)).alloc (.cells #[.int .i64 den, .int .i64 d, .int .i64 (d % 1000), .int .i64 (1 + d % 100), .int .i64 d] 3) = w3 at *
  generalize [total, t, t, t, t] = la at *
  generalize [num, n, n % 1000, n, m] = lb at *
  generalize [den, d, d % 1000, 1 + d % 100, d] = lc at *
  generalize w.heap.size + 1 + 1 = b3 at *
  generalize w.heap.size + 1 = b2 at *
  generalize w.heap.size = b1 at *
  clear ht hn hd hm z1 z2
  go_loopw [13] (fun ti wr => ∃ i : Nat, i ≤ 5 ∧ ti = .int .i64 i ∧ Q w3 wr) (fun ti _ => 5 - (intOf ti).toNat)
  case atStart => exact ⟨0, Nat.zero_le _, rfl, Q.refl _⟩
  case round =>
    obtain ⟨i, hi, rfl, hq⟩ := hrel
    by_cases hlt : (i : Int) < 5
    · obtain ⟨c1, o1, x, e1, _, _, _, f1⟩ := (N1.q hq).get (i := i) (by omega)
      obtain ⟨c2, o2, y, e2, _, _, _, f2⟩ := (N2.q hq).get (i := i) (by omega)
      obtain ⟨c3, o3, z, e3, _, _, _, f3⟩ := (N3.q hq).get (i := i) (by omega)
      injection e1 with e1; injection e1 with e1 e1'; subst e1 e1'
      injection e2 with e2; injection e2 with e2 e2'; subst e2 e2'
      injection e3 with e3; injection e3 with e3 e3'; subst e3 e3'
      rw [Nat.zero_add] at f1 f2 f3
      obtain ⟨wi, rfl⟩ : ∃ wo : World, wo = wr := ⟨_, rfl⟩
      have P1 := Lib.hid (part_c x y z)
      have P2 := Lib.hid (refPart_c x y z)
      have P3 := Lib.hid (ceil_c x y z)
      have P4 := Lib.hid (refCeil_c x y z)
      generalize divQ x y z = v1 at *
      generalize divE x y z = v2 at *
      generalize ceilQ x y z = v3 at *
      generalize ceilE x y z = v4 at *
      go_wp2_with fail
      go_quiet ((go_at_call 13; exact quietQ (P1.out _)))
      go_wp2_with fail
      replace hq := hq.drewN nq
      replace f1 : (wi.drewN nq).cell? ⟨b1, i, none⟩ = some (.int .i64 x) := f1
      replace f2 : (wi.drewN nq).cell? ⟨b2, i, none⟩ = some (.int .i64 y) := f2
      replace f3 : (wi.drewN nq).cell? ⟨b3, i, none⟩ = some (.int .i64 z) := f3
      generalize wi.drewN nq = wi at *
      go_quiet ((go_at_call 14; exact quietS (P2.out _)))
      go_wp2_with fail
      replace hq := hq.drewN nq
      replace f1 : (wi.drewN nq).cell? ⟨b1, i, none⟩ = some (.int .i64 x) := f1
      replace f2 : (wi.drewN nq).cell? ⟨b2, i, none⟩ = some (.int .i64 y) := f2
      replace f3 : (wi.drewN nq).cell? ⟨b3, i, none⟩ = some (.int .i64 z) := f3
      generalize wi.drewN nq = wi at *
      go_quiet ((go_at_call 15; exact quietQ (P3.out _)))
      go_wp2_with fail
      replace hq := hq.drewN nq
      replace f1 : (wi.drewN nq).cell? ⟨b1, i, none⟩ = some (.int .i64 x) := f1
      replace f2 : (wi.drewN nq).cell? ⟨b2, i, none⟩ = some (.int .i64 y) := f2
      replace f3 : (wi.drewN nq).cell? ⟨b3, i, none⟩ = some (.int .i64 z) := f3
      generalize wi.drewN nq = wi at *
      go_quiet ((go_at_call 16; exact quietS (P4.out _)))
      go_wp2_with fail
      replace hq := hq.drewN nq
      replace f1 : (wi.drewN nq).cell? ⟨b1, i, none⟩ = some (.int .i64 x) := f1
      replace f2 : (wi.drewN nq).cell? ⟨b2, i, none⟩ = some (.int .i64 y) := f2
      replace f3 : (wi.drewN nq).cell? ⟨b3, i, none⟩ = some (.int .i64 z) := f3
      generalize wi.drewN nq = wi at *
      go_roundw
      case rel => exact ⟨i + 1, by omega, by go_num, hq⟩
      case measure => simp [intOf]; omega
    · go_wp2_with fail
      refine (shLives_c _).mono ?_
      rintro e w4 ⟨rfl, hE4⟩
      go_wp2_with fail
      go_ret
      exact ⟨rfl, (hE0.q hq).trans hE4⟩
end Go.Proofs.Ytkbdmicnmddikaa
