/- The walk of BagAmounts. -/
import Derived.Test.YtbpfdogjjoceaaaY
import Derived.Test.YtbpfdogjjoceaaaFR
namespace Go.Proofs.Ytbpfdogjjoceaaa
open Go.RowKit

theorem same_te (A1 A2 : Option Addr) (n1 c1 n2 c2 : Nat) (l : List Int) (w : World) (h1 : Nums .i64 w A1 n1 c1 l) (h2 : Nums .i64 w A2 n2 c2 l) :
    Calls Try.prog 16 #[.slice A1 n1 c1, .slice A2 n2 c2] w (RetB w true) :=
  (same_t A1 A2 n1 c1 n2 c2 l w h1 h2).mono fun _ _ h => ⟨h.1, E.of_q h.2⟩
theorem sorted_e (N : Int) (A : Option Addr) (n c : Nat) (l : List (Int × Int)) (w : World) (h : Pairs w A n c l) :
    Calls Try.prog 27 #[.int .i64 N, .slice A n c] w (RetB w (validS N l)) :=
  (sorted_c N A n c l w h).mono fun _ _ h => ⟨h.1, E.of_q h.2⟩

set_option maxHeartbeats 8000000 in
set_option maxRecDepth 100000 in
theorem bagAmounts_w (N : Int) (A : Option Addr) (n c : Nat) (l : List (Int × Int)) (A2 : Option Addr) (n2 c2 : Nat) (l2 : List Int) (w : World) (h : Pairs w A n c l) (h2 : Nums .i64 w A2 n2 c2 l2) (hN1 : -9223372036854775808 ≤ N) (hN2 : N ≤ 9223372036854775807) :
    Calls Try.prog 5 #[.int .i64 N, .slice A n c, .slice A2 n2 c2] w (RetB w true) := by
  go_enter Try.func5, Try.ntmps5
  go_wp2_with fail
  refine (around_c N 66 _ hN1 hN2 (by omega) (by omega)).mono ?_
  rintro e w1 ⟨rfl, rfl⟩
  obtain ⟨w1, rfl⟩ : ∃ wx : World, wx = w := ⟨_, rfl⟩
  have hF := nums_lit .i64 w1 3 [N, N % 66] (by intro x hx; simp at hx; rcases hx with rfl | rfl <;> exact wf_of_i64 (by omega) (by omega)) (by simp)
  have hEa := (E.refl w1).alloc (.cells ([N, N % 66].map (Value.int .i64)).toArray 3)
  have hP0 := h.e hEa
  have hL0 := h2.e hEa
  go_wp2
  change Code.wp _ _ _ _ (w1.alloc (.cells ([N, N % 66].map (Value.int .i64)).toArray 3))
  generalize (w1.alloc (.cells ([N, N % 66].map (Value.int .i64)).toArray 3)) = w2 at *
  go_loopw [8] (fun t wr => ∃ k : Nat, k ≤ 2 ∧ t = .int .i64 k ∧ E w2 wr) (fun t _ => 2 - (intOf t).toNat)
  case atStart => exact ⟨0, by omega, rfl, E.refl _⟩
  case round =>
    obtain ⟨k, hk, rfl, hEr⟩ := hrel
    obtain ⟨wo, rfl⟩ : ∃ wo : World, wo = wr := ⟨_, rfl⟩
    by_cases hlt : (k : Int) < 2
    · obtain ⟨bf, of, y, hAf, hbf, hy, hwy, hcf⟩ := (hF.e hEr).get (i := k) (by simp; omega)
      injection hAf with hAf; injection hAf with e1 e2; subst e1 e2
      rw [Nat.zero_add] at hcf
      obtain ⟨y0, y1⟩ := wf_i64 hwy
      clear hy
      go_wp2_with fail
      refine (lawAmounts_c _ _ _ _ _ _ _ _ _ _ (hP0.e hEr) (hL0.e hEr) y0 y1).mono ?_
      rintro e w3 ⟨A3, c3, m1, m2, m3, rfl, hM, hE3⟩
      replace hcf := (hE3.cell (p := ⟨w1.heap.size, k, none⟩) hbf).trans hcf
      replace hbf := Nat.lt_of_lt_of_le hbf hE3.le
      replace hEr := hEr.trans hE3
      clear hE3
      go_wp2
      go_loopw [10] (fun t wr => ∃ i : Nat, i ≤ 3 ∧ t = .int .i64 i ∧ E w3 wr) (fun t _ => 3 - (intOf t).toNat)
      case atStart => exact ⟨0, by omega, rfl, E.refl _⟩
      case round =>
        obtain ⟨i, hi, rfl, hEr2⟩ := hrel
        obtain ⟨wi, rfl⟩ : ∃ wo : World, wo = wr := ⟨_, rfl⟩
        by_cases hli : (i : Int) < 3
        · obtain ⟨bm, om, Ai, ni, ci, li, rfl, hbm, _, hci, hPi⟩ := (hM.e hEr2).get (i := i) (by omega)
          replace hcf := (hEr2.cell (p := ⟨w1.heap.size, k, none⟩) hbf).trans hcf
          replace hbf := Nat.lt_of_lt_of_le hbf hEr2.le
          have env := Env.nil wi
          go_wp2
          replace hPi := hPi.e (E.refl wi).drew
          go_region_held3 (fun w' => wi.heap.size ≤ w'.heap.size ∧ ∀ b o, b < wi.heap.size → w'.cell? ⟨b, o, none⟩ = wi.cell? ⟨b, o, none⟩) (first | exact ⟨Nat.le_refl _, fun _ _ _ => rfl⟩ | exact sKeep (by assumption) (by assumption))
            ((go_at_call 24; refine (of_c _ _ _ _ _ _ hPi).mono ?_; rintro e w4 ⟨Aw4, nw4, cw4, rfl, hOw4, hEw4⟩))
          rename_i hHeld
          clear hHeld
          have hE' : E wi w4 := ((E.refl wi).drew).trans hEw4
          replace hci := (hE'.cell (p := ⟨bm, om + i, none⟩) hbm).trans hci
          replace hcf := (hE'.cell (p := ⟨w1.heap.size, k, none⟩) hbf).trans hcf
          replace hbm := Nat.lt_of_lt_of_le hbm hE'.le
          replace hbf := Nat.lt_of_lt_of_le hbf hE'.le
          replace env := ((env.e hE').add hOw4.reads)
          replace hPi := hPi.e hEw4
          replace hEr2 := hEr2.trans hE'
          clear hEw4 hOw4 hE'
          go_wp2
          replace hPi := hPi.e (E.refl w4).drew
          go_region_held3 (fun w' => w4.heap.size ≤ w'.heap.size ∧ ∀ b o, b < w4.heap.size → w'.cell? ⟨b, o, none⟩ = w4.cell? ⟨b, o, none⟩) (first | exact ⟨Nat.le_refl _, fun _ _ _ => rfl⟩ | exact sKeep (by assumption) (by assumption))
            ((go_at_call 25; refine (refOf_c _ _ _ _ _ _ hPi).mono ?_; rintro e w5 ⟨Aw5, nw5, cw5, rfl, hOw5, hEw5⟩))
          rename_i hHeld
          clear hHeld
          have hE' : E w4 w5 := ((E.refl w4).drew).trans hEw5
          replace hci := (hE'.cell (p := ⟨bm, om + i, none⟩) hbm).trans hci
          replace hcf := (hE'.cell (p := ⟨w1.heap.size, k, none⟩) hbf).trans hcf
          replace hbm := Nat.lt_of_lt_of_le hbm hE'.le
          replace hbf := Nat.lt_of_lt_of_le hbf hE'.le
          replace env := ((env.e hE').add hOw5.reads)
          replace hPi := hPi.e hEw5
          replace hEr2 := hEr2.trans hE'
          clear hEw5 hOw5 hE'
          go_wp2
          have hne1 : ((ofS y li).2 != (ofS y li).2) = false := by simp
          have hne2 : (validS y li != validS y li) = false := by simp
          replace env := env.e (E.refl w5).drew
          replace hPi := hPi.e (E.refl w5).drew
          replace hEr2 := hEr2.drew
          go_region_held3 (fun w' => w5.heap.size ≤ w'.heap.size ∧ ∀ b o, b < w5.heap.size → w'.cell? ⟨b, o, none⟩ = w5.cell? ⟨b, o, none⟩) (first | exact ⟨Nat.le_refl _, fun _ _ _ => rfl⟩ | exact sKeep (by assumption) (by assumption))
            (first
              | (go_at_call 16; refine (same_te _ _ _ _ _ _ _ _ (env.at (by first | exact .head _ | exact .tail _ (.head _) | exact .tail _ (.tail _ (.head _)) | exact .tail _ (.tail _ (.tail _ (.head _))) | exact .tail _ (.tail _ (.tail _ (.tail _ (.head _)))) | exact .tail _ (.tail _ (.tail _ (.tail _ (.tail _ (.head _))))) | exact .tail _ (.tail _ (.tail _ (.tail _ (.tail _ (.tail _ (.head _)))))) | exact .tail _ (.tail _ (.tail _ (.tail _ (.tail _ (.tail _ (.tail _ (.head _))))))) | exact .tail _ (.tail _ (.tail _ (.tail _ (.tail _ (.tail _ (.tail _ (.tail _ (.head _)))))))) | exact .tail _ (.tail _ (.tail _ (.tail _ (.tail _ (.tail _ (.tail _ (.tail _ (.tail _ (.head _))))))))) | exact .tail _ (.tail _ (.tail _ (.tail _ (.tail _ (.tail _ (.tail _ (.tail _ (.tail _ (.tail _ (.head _)))))))))) | exact .tail _ (.tail _ (.tail _ (.tail _ (.tail _ (.tail _ (.tail _ (.tail _ (.tail _ (.tail _ (.tail _ (.head _))))))))))))) (env.at (by first | exact .head _ | exact .tail _ (.head _) | exact .tail _ (.tail _ (.head _)) | exact .tail _ (.tail _ (.tail _ (.head _))) | exact .tail _ (.tail _ (.tail _ (.tail _ (.head _)))) | exact .tail _ (.tail _ (.tail _ (.tail _ (.tail _ (.head _))))) | exact .tail _ (.tail _ (.tail _ (.tail _ (.tail _ (.tail _ (.head _)))))) | exact .tail _ (.tail _ (.tail _ (.tail _ (.tail _ (.tail _ (.tail _ (.head _))))))) | exact .tail _ (.tail _ (.tail _ (.tail _ (.tail _ (.tail _ (.tail _ (.tail _ (.head _)))))))) | exact .tail _ (.tail _ (.tail _ (.tail _ (.tail _ (.tail _ (.tail _ (.tail _ (.tail _ (.head _))))))))) | exact .tail _ (.tail _ (.tail _ (.tail _ (.tail _ (.tail _ (.tail _ (.tail _ (.tail _ (.tail _ (.head _)))))))))) | exact .tail _ (.tail _ (.tail _ (.tail _ (.tail _ (.tail _ (.tail _ (.tail _ (.tail _ (.tail _ (.tail _ (.head _)))))))))))))).mono ?_; rintro e w' ⟨rfl, hE⟩; replace env := env.e hE; replace hPi := hPi.e hE; replace hEr2 := hEr2.trans hE)
              | (go_at_call 26; refine (valid_c _ _ _ _ _ _ hPi).mono ?_; rintro e w' ⟨rfl, hE⟩; replace env := env.e hE; replace hPi := hPi.e hE; replace hEr2 := hEr2.trans hE)
              | (go_at_call 27; refine (sorted_e _ _ _ _ _ _ hPi).mono ?_; rintro e w' ⟨rfl, hE⟩; replace env := env.e hE; replace hPi := hPi.e hE; replace hEr2 := hEr2.trans hE))
          rename_i hHeld
          clear hHeld
          go_wp2
          go_roundw
          case rel => exact ⟨i + 1, by omega, by go_num, hEr2⟩
          case measure => simp [intOf]; omega
        · go_wp2
          go_roundw
          case rel => exact ⟨k + 1, by omega, by go_num, hEr.trans hEr2⟩
          case measure => simp [intOf]; omega
    · go_wp2_with (go_at_call 19; refine (lives_c _).mono ?_; rintro e w' ⟨rfl, hEl⟩)
      go_ret
      exact ⟨rfl, (hEa.trans hEr).trans hEl⟩
end Go.Proofs.Ytbpfdogjjoceaaa
