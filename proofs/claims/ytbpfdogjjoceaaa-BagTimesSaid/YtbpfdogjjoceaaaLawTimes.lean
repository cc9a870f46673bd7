/- The walk of BagTimes. -/
import Derived.Test.YtbpfdogjjoceaaaEV
namespace Go.Proofs.Ytbpfdogjjoceaaa
open Go.RowKit

set_option maxHeartbeats 2000000 in
set_option maxRecDepth 100000 in
theorem bagTimes_w (N p v q : Int) (A : Option Addr) (n c : Nat) (l : List Int) (w : World) (h : Nums .i64 w A n c l) (hN1 : -9223372036854775808 ≤ N) (hN2 : N ≤ 9223372036854775807) (hp1 : -9223372036854775808 ≤ p) (hp2 : p ≤ 9223372036854775807) (hv : (Lit.int .i64 v).wf = true) (hq1 : -9223372036854775808 ≤ q) (hq2 : q ≤ 9223372036854775807) :
    Calls Try.prog 3 #[.int .i64 N, .slice A n c, .int .i64 p, .int .i64 v, .int .i64 q] w (RetB w true) := by
  go_enter Try.func3, Try.ntmps3
  go_wp2_with fail
  refine (bags_c N p v _ _ _ _ _ h hN1 hN2 hp1 hp2 hv).mono ?_
  rintro e w1 ⟨A1, n1, c1, rfl, hM, hE1⟩
  go_wp2_with fail
  refine (around_c q 1048577 _ hq1 hq2 (by omega) (by omega)).mono ?_
  rintro e w' ⟨rfl, rfl⟩
  go_wp2_with fail
  refine (around_c q 20 _ hq1 hq2 (by omega) (by omega)).mono ?_
  rintro e w' ⟨rfl, rfl⟩
  have hn1 : n1 = 3 := by rw [← hM.len]; rfl
  subst hn1
  have hF := nums_lit .i64 w1 3 [q, q % 1048577, q % 20] (by intro x hx; simp at hx; rcases hx with rfl | rfl | rfl <;> exact wf_of_i64 (by omega) (by omega)) (by simp)
  have hEa := (E.refl w1).alloc (.cells ([q, q % 1048577, q % 20].map (Value.int .i64)).toArray 3)
  have hE2 := hE1.trans hEa
  have hM2 := hM.e hEa
  go_wp2
  change Code.wp _ _ _ _ (w1.alloc (.cells ([q, q % 1048577, q % 20].map (Value.int .i64)).toArray 3))
  generalize (w1.alloc (.cells ([q, q % 1048577, q % 20].map (Value.int .i64)).toArray 3)) = w2 at *
  clear hEa hM hE1
  go_loopw [13] (fun t wr => ∃ i : Nat, i ≤ 3 ∧ t = .int .i64 i ∧ E w2 wr) (fun t _ => 3 - (intOf t).toNat)
  case atStart => exact ⟨0, by omega, rfl, E.refl _⟩
  case round =>
    obtain ⟨i, hi, rfl, hEr⟩ := hrel
    obtain ⟨wo, rfl⟩ : ∃ wo : World, wo = wr := ⟨_, rfl⟩
    by_cases hlt : (i : Int) < 3
    · go_wp2
      go_loopw [14] (fun t wr => ∃ k : Nat, k ≤ 3 ∧ t = .int .i64 k ∧ E w2 wr) (fun t _ => 3 - (intOf t).toNat)
      case atStart => exact ⟨0, by omega, rfl, hEr⟩
      case round =>
        obtain ⟨k, hk, rfl, hEr2⟩ := hrel
        obtain ⟨wi, rfl⟩ : ∃ wo : World, wo = wr := ⟨_, rfl⟩
        by_cases hlk : (k : Int) < 3
        · obtain ⟨bm, om, Ai, ni, ci, li, rfl, hbm, hli, hci, hNi⟩ := (hM2.e hEr2).get (i := i) (by omega)
          obtain ⟨bm', om', Ak, nk, ck, lk, hAk, hbm', hlk', hck, hNk⟩ := (hM2.e hEr2).get (i := k) (by omega)
          injection hAk with hAk; injection hAk with e1 e2; subst e1 e2
          obtain ⟨bf, of, y, hAf, hbf, hy, hwy, hcf⟩ := (hF.e hEr2).get (i := k) (by simp; omega)
          injection hAf with hAf; injection hAf with e1 e2; subst e1 e2
          rw [Nat.zero_add] at hcf
          clear hli hlk' hy
          go_wp2
          obtain ⟨hy1, hy2⟩ := wf_i64 hwy
          go_region_held3 (fun w' => wi.heap.size ≤ w'.heap.size ∧ ∀ b o, b < wi.heap.size → w'.cell? ⟨b, o, none⟩ = wi.cell? ⟨b, o, none⟩) (first | exact ⟨Nat.le_refl _, fun _ _ _ => rfl⟩ | exact sKeep (by assumption) (by assumption))
            ((go_at_call 14; refine (times_c _ _ _ _ _ _ (hNi.e (E.refl _).drew)).mono ?_; rintro e w3 ⟨A3, n3, c3, rfl, hO3, hE3⟩))
          rename_i hHeld
          clear hHeld
          have hE3' : E wi w3 := ((E.refl wi).drew).trans hE3
          replace hci := (hE3'.cell (p := ⟨bm, om + i, none⟩) hbm).trans hci
          replace hck := (hE3'.cell (p := ⟨bm, om + k, none⟩) hbm).trans hck
          replace hcf := (hE3'.cell (p := ⟨w1.heap.size, k, none⟩) hbf).trans hcf
          replace hNi := hNi.e hE3'
          replace hNk := hNk.e hE3'
          replace hbm := Nat.lt_of_lt_of_le hbm hE3'.le
          replace hbf := Nat.lt_of_lt_of_le hbf hE3'.le
          replace hO3 := hO3.reads
          replace hEr2 := hEr2.trans hE3'
          clear hE3 hE3' hbm'
          go_wp2
          go_region_held3 (fun w' => w3.heap.size ≤ w'.heap.size ∧ ∀ b o, b < w3.heap.size → w'.cell? ⟨b, o, none⟩ = w3.cell? ⟨b, o, none⟩) (first | exact ⟨Nat.le_refl _, fun _ _ _ => rfl⟩ | exact sKeep (by assumption) (by assumption))
            ((go_at_call 15; refine (refTimes_c _ _ _ _ _ _ (hNi.e (E.refl _).drew)).mono ?_; rintro e w4 ⟨A4, n4, c4, rfl, hO4, hE4⟩))
          rename_i hHeld
          clear hHeld
          have hE4' : E w3 w4 := ((E.refl w3).drew).trans hE4
          replace hci := (hE4'.cell (p := ⟨bm, om + i, none⟩) hbm).trans hci
          replace hck := (hE4'.cell (p := ⟨bm, om + k, none⟩) hbm).trans hck
          replace hNi := hNi.e hE4'
          replace hNk := hNk.e hE4'
          replace hO3 := hO3.e hE4'
          replace hO4 := hO4.reads
          replace hEr2 := hEr2.trans hE4'
          clear hE4 hE4' hbm hbf hcf
          have hne : ((timesS li y).2 != (timesS li y).2) = false := by simp
          have hne2 : (mostB li lk != mostB li lk) = false := by simp
          generalize (timesS li y).2 = err at *
          go_wp2
          go_quiet (first
            | (go_at_call 16; exact Calls.quiet_of (same_t _ _ _ _ _ _ _ _ (hO3.e ((E.refl _).drewN _)) (hO4.e ((E.refl _).drewN _))))
            | (go_at_call 17; exact quietE (most_c _ _ _ _ _ _ _ _ _ (hNi.e ((E.refl _).drewN _)) (hNk.e ((E.refl _).drewN _))))
            | (go_at_call 18; exact Calls.quiet_of (refMost_c _ _ _ _ _ _ _ _ _ (hNi.e ((E.refl _).drewN _)) (hNk.e ((E.refl _).drewN _)))))
          go_wp2
          go_roundw
          case rel => exact ⟨k + 1, by omega, by go_num, hEr2.drewN _⟩
          case measure => simp [intOf]; omega
        · go_wp2
          go_roundw
          case rel => exact ⟨i + 1, by omega, by go_num, hEr2⟩
          case measure => simp [intOf]; omega
    · go_wp2_with (go_at_call 19; refine (lives_c _).mono ?_; rintro e w' ⟨rfl, hEl⟩)
      go_ret
      exact ⟨rfl, (hE2.trans hEr).trans hEl⟩
end Go.Proofs.Ytbpfdogjjoceaaa
