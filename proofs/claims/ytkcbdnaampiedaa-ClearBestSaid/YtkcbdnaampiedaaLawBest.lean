/- The walk of ClearBest. -/
import Derived.Test.YtkcbdnaampiedaaLawPrices
namespace Go.Proofs.Ytkcbdnaampiedaa
open Go.RowKit

set_option maxHeartbeats 8000000 in
set_option maxRecDepth 100000 in
theorem clearBest_w (N bidder at_ how by_ : Int) (A : Option Addr) (n c : Nat) (l : List Int) (w : World) (h : Nums .i64 w A n c l) (hN1 : -9223372036854775808 ≤ N) (hN2 : N ≤ 9223372036854775807) (hd1 : -9223372036854775808 ≤ bidder) (hd2 : bidder ≤ 9223372036854775807) (ha1 : -9223372036854775808 ≤ at_) (ha2 : at_ ≤ 9223372036854775807) (hh1 : -9223372036854775808 ≤ how) (hh2 : how ≤ 9223372036854775807) (hb1 : -9223372036854775808 ≤ by_) (hb2 : by_ ≤ 9223372036854775807) :
    Calls Try.prog 7 #[.int .i64 N, .slice A n c, .int .i64 bidder, .int .i64 at_, .int .i64 how, .int .i64 by_] w (RetK w true) := by
  have hr := aroN_range N (m := 8) (by omega)
  have HL := Lib.hid (lots27_c N w hN1 hN2)
  obtain ⟨K, hK⟩ : ∃ K : Nat, 1 + aroN N 8 = K := ⟨(1 + aroN N 8).toNat, by omega⟩
  rw [hK] at HL
  have hK1 : 1 ≤ K := by omega
  have hK8 : K ≤ 8 := by omega
  clear hK hr
  have HB := Lib.hid (bids27_c K 8 A n c l w h hK1 hK8 (by omega))
  have HB11 := Lib.hid (fun W hW => bids27_c K 11 A n c l W (h.e hW) hK1 hK8 (by omega))
  go_enter Try.func7, Try.ntmps7
  go_wp2_with fail
  refine HL.out.mono ?_
  rintro e w' ⟨rfl, rfl⟩
  go_wp2_with fail
  refine HB.out.mono ?_
  rintro e w1 ⟨lb, hlb, hgen, A1, n1, c1, q1, rfl, hR1, hq1, hE1⟩
  have hn1 : n1 ≤ 8 := by rw [← hR1.1, ← List.length_map (f := Prod.fst), hq1]; exact hlb
  have HSP := Lib.hid (fun W hW => spoilt_c A1 n1 c1 q1 at_ how by_ W _ (hR1.e hW) (by omega) ha1 ha2 hh1 hh2 hb1 hb2 (gen_lots hR1 hq1 hgen hK8))
  have hbd1 := hR1.bids
  clear hq1 hgen hlb hR1 HB HL ha1 ha2 hh1 hh2 hb1 hb2
  go_wp2_with fail
  refine (HSP.out _ (E.refl _)).mono ?_
  rintro e w2 ⟨A2, c2, q2, rfl, hR2, hl2, hE2⟩
  have hbd2 := hR2.bids
  have hEw2 := hE1.trans hE2
  have hbd12 := hbd1.e hE2
  clear hR2 hl2 HSP
  go_wp2_with fail
  refine (HB11.out _ hEw2).mono ?_
  rintro e w2' ⟨lb3, hlb3, hgen3, A3, n3, c3, q3, rfl, hR3, hq3, hE2'⟩
  have hn3 : n3 ≤ 11 := by rw [← hR3.1, ← List.length_map (f := Prod.fst), hq3]; exact hlb3
  have hbd3 := hR3.bids
  clear hq3 hgen3 hlb3 hR3
  have hEw2' := hEw2.trans hE2'
  have hb1 := hbd12.e hE2'
  have hb2 := hbd2.e hE2'
  obtain ⟨w3, hw3⟩ : ∃ w3, w2'.alloc (.cells #[.slice A1 n1 c1, .slice A2 n1 c2, .slice A3 n3 c3] 24) = w3 := ⟨_, rfl⟩
  have hE3 : E w2' w3 := by rw [← hw3]; exact (E.refl _).alloc _
  have hblk : w3.heap[w2'.heap.size]? = some (.cells #[.slice A1 n1 c1, .slice A2 n1 c2, .slice A3 n3 c3] 24 (0, 0)) := by rw [← hw3]; exact heap_alloc_new _ _
  have hsz : w2'.heap.size < w3.heap.size := by rw [← hw3]; simp
  have HALL := Lib.hid (show ∀ i, i < 3 → ∃ Ai ni ci li, w3.cell? ⟨w2'.heap.size, i, none⟩ = some (.slice Ai ni ci) ∧ BidsAt w3 Ai ni ci li ∧ ni ≤ 11 from fun i hi => by
    obtain rfl | rfl | rfl : i = 0 ∨ i = 1 ∨ i = 2 := by omega
    · exact ⟨A1, n1, c1, _, cell_of_row _ _ 0 _ _ _ hblk, hb1.e hE3, by omega⟩
    · exact ⟨A2, n1, c2, _, cell_of_row _ _ 1 _ _ _ hblk, hb2.e hE3, by omega⟩
    · exact ⟨A3, n3, c3, _, cell_of_row _ _ 2 _ _ _ hblk, hbd3.e hE3, hn3⟩)
  have HW3 := Lib.hid hw3
  have hEw3 := hEw2'.trans hE3
  have HAr := Lib.hid (fun W => around1_c bidder 7 W hd1 hd2 (by omega) (by omega))
  have hra := aroN_range bidder (m := 7) (by omega)
  generalize aroN bidder 7 = bd at *
  obtain ⟨hbd0, hbd7⟩ := hra
  clear hE1 hE2 hE2' hE3 hEw2 hEw2' hbd1 hbd2 hbd12 hbd3 hb1 hb2 hblk hw3 hd1 hd2 HB11
  go_wp2_with fail
  rw [HW3.out]
  clear HW3
  go_loopw [16] (fun ti wr => ∃ i : Nat, i ≤ 3 ∧ ti = .int .i64 i ∧ E w3 wr) (fun ti _ => 3 - (intOf ti).toNat)
  case atStart => exact ⟨0, Nat.zero_le _, rfl, E.refl _⟩
  case round =>
    obtain ⟨i, hi, rfl, hE⟩ := hrel
    by_cases hi2 : (i : Int) < 3
    · obtain ⟨Ai, ni, ci, li, hci, hbi, hni⟩ := HALL.out i (by omega)
      have hcr := (hE.cell (p := ⟨w2'.heap.size, i, none⟩) hsz).trans hci
      have hbr := hbi.e hE
      clear hci hbi
      by_cases hsk : i = 2 ∧ ni < 11
      · have hd : ((i : Int) == 2) = true := by simp; omega
        have hl : (ni : Int) < 11 := by omega
        have HI := Lib.hid hsk.1
        clear hsk
        go_wp2_with fail
        exact ⟨⟨i + 1, by omega, by go_num, hE⟩, by simp [intOf]; omega⟩
      have HP1 := Lib.hid (fun W A4 n4 c4 (hb : BidsAt W A4 n4 c4 li) => cBest_c (K : Int) A4 n4 c4 li W hb (by omega) (by omega))
      have HP2 := Lib.hid (fun W (hb : BidsAt W Ai ni ci li) => rBest_c (K : Int) Ai ni ci li W hb (by omega) (by omega))
      have HP3 := Lib.hid (fun W A4 n4 c4 (hb : BidsAt W A4 n4 c4 li) => cWithout_c (K : Int) A4 n4 c4 li (1 + bd) W hb (by omega) (by omega))
      have HP4 := Lib.hid (fun W (hb : BidsAt W Ai ni ci li) => rWithout_c (K : Int) Ai ni ci li (1 + bd) W hb (by omega) (by omega))
      generalize bestF (K : Int) li = pf at *
      generalize withoutF (K : Int) li (1 + bd) = wf at *
      obtain ⟨pl, pv, pe⟩ := pf
      obtain ⟨wv, we⟩ := wf
      have e1 : (pe != pe) = false := by simp
      have e2 : (pv != pv) = false := by simp
      have e3 : (we != we) = false := by simp
      have e4 : (wv != wv) = false := by simp
      have hszr : w2'.heap.size < wr.heap.size := Nat.lt_of_lt_of_le hsz hE.le
      have HSK := Lib.hid hsk
      have HGI := Lib.hid (fun W (hb : BidsAt W Ai ni ci li) => given_c _ _ _ _ W hb (by omega))
      clear hsk
      by_cases hi2' : i = 2
      · have hd : ((i : Int) == 2) = true := by simp; omega
        have hl : ¬ (ni : Int) < 11 := by have := HSK.out; omega
        have HI := Lib.hid hi2'
        clear hi2'
        go_wp2_with fail
        refine (HGI.out _ hbr).mono ?_
        rintro e w4 ⟨A4, n4, c4, q4, rfl, hR4, hq4, hE4⟩
        have hb4 := hR4.bids
        rw [hq4] at hb4
        have hcr4 := (hE4.cell (p := ⟨w2'.heap.size, i, none⟩) hszr).trans hcr
        have hsz4 : w2'.heap.size < w4.heap.size := Nat.lt_of_lt_of_le hszr hE4.le
        have hbr4 := hbr.e hE4
        clear hR4 hq4 hcr hbr
        go_wp2_with fail
        refine (HP1.out _ _ _ _ hb4).mono ?_
        rintro e w5 ⟨A5, n5, c5, rfl, hO5, hE5⟩
        have hcr5 := (hE5.cell (p := ⟨w2'.heap.size, i, none⟩) hsz4).trans hcr4
        have hsz5 := Nat.lt_of_lt_of_le hsz4 hE5.le
        have hN5 : Nums .i64 w5 A5 n5 c5 (ints pl) := hO5.reads
        have hbr5 := hbr4.e hE5
        clear hcr4 hO5 hbr4 hb4
        simp only
        go_wp2_with fail
        refine (HP2.out _ hbr5).mono ?_
        rintro e w6 ⟨A6, n6, c6, rfl, hN6', hE6⟩
        have hN6 : Nums .i64 w6 A6 n6 c6 (ints pl) := hN6'
        have hN56 := hN5.e hE6
        have hcr6 := (hE6.cell (p := ⟨w2'.heap.size, i, none⟩) hsz5).trans hcr5
        have hsz6 := Nat.lt_of_lt_of_le hsz5 hE6.le
        have hbr6 := hbr5.e hE6
        clear hcr5 hbr5 hN5 hN6'
        simp only
        go_wp2_with fail
        refine (HAr.out _).mono ?_
        rintro e w' ⟨rfl, rfl⟩
        go_wp2_with fail
        refine (HGI.out _ hbr6).mono ?_
        rintro e w7 ⟨A7, n7, c7, q7, rfl, hR7, hq7, hE7⟩
        have hb7 := hR7.bids
        rw [hq7] at hb7
        have hcr7 := (hE7.cell (p := ⟨w2'.heap.size, i, none⟩) hsz6).trans hcr6
        have hsz7 := Nat.lt_of_lt_of_le hsz6 hE7.le
        have hbr7 := hbr6.e hE7
        have hN57 := hN56.e hE7
        have hN67 := hN6.e hE7
        clear hR7 hq7 hcr6 hbr6 hN56 hN6
        go_wp2_with fail
        refine (HP3.out _ _ _ _ hb7).mono ?_
        rintro e w8 ⟨rfl, hE8⟩
        have hcr8 := (hE8.cell (p := ⟨w2'.heap.size, i, none⟩) hsz7).trans hcr7
        have hbr8 := hbr7.e hE8
        have hN58 := hN57.e hE8
        have hN68 := hN67.e hE8
        clear hb7 hcr7 hbr7 hN57 hN67
        simp only
        go_wp2_with fail
        refine (HP4.out _ hbr8).mono ?_
        rintro e w9 ⟨rfl, hE9⟩
        have HSame := Lib.hid (sameInts_e A5 A6 n5 c5 n6 c6 (ints pl) (ints pl) w9 (hN58.e hE9) (hN68.e hE9))
        rw [show sameB (ints pl) (ints pl) = true by simp [sameB]] at HSame
        have hEE := (((((hE.trans hE4).trans hE5).trans hE6).trans hE7).trans hE8).trans hE9
        clear hbr8 hcr8 hN58 hN68 HP1 HP2 HP3 HP4 HGI
        simp only
        go_wp2_with fail
        refine HSame.out.mono ?_
        rintro e wa ⟨rfl, hEa⟩
        go_wp2_with fail
        exact ⟨⟨i + 1, by omega, by go_num, hEE.trans hEa⟩, by simp [intOf]; omega⟩
      · have hd : ((i : Int) == 2) = false := by simp; omega
        clear hi2'
        go_wp2_with fail
        refine (HGI.out _ hbr).mono ?_
        rintro e w4 ⟨A4, n4, c4, q4, rfl, hR4, hq4, hE4⟩
        have hb4 := hR4.bids
        rw [hq4] at hb4
        have hcr4 := (hE4.cell (p := ⟨w2'.heap.size, i, none⟩) hszr).trans hcr
        have hsz4 : w2'.heap.size < w4.heap.size := Nat.lt_of_lt_of_le hszr hE4.le
        have hbr4 := hbr.e hE4
        clear hR4 hq4 hcr hbr
        go_wp2_with fail
        refine (HP1.out _ _ _ _ hb4).mono ?_
        rintro e w5 ⟨A5, n5, c5, rfl, hO5, hE5⟩
        have hcr5 := (hE5.cell (p := ⟨w2'.heap.size, i, none⟩) hsz4).trans hcr4
        have hsz5 := Nat.lt_of_lt_of_le hsz4 hE5.le
        have hN5 : Nums .i64 w5 A5 n5 c5 (ints pl) := hO5.reads
        have hbr5 := hbr4.e hE5
        clear hcr4 hO5 hbr4 hb4
        simp only
        go_wp2_with fail
        refine (HP2.out _ hbr5).mono ?_
        rintro e w6 ⟨A6, n6, c6, rfl, hN6', hE6⟩
        have hN6 : Nums .i64 w6 A6 n6 c6 (ints pl) := hN6'
        have hN56 := hN5.e hE6
        have hcr6 := (hE6.cell (p := ⟨w2'.heap.size, i, none⟩) hsz5).trans hcr5
        have hsz6 := Nat.lt_of_lt_of_le hsz5 hE6.le
        have hbr6 := hbr5.e hE6
        clear hcr5 hbr5 hN5 hN6'
        simp only
        go_wp2_with fail
        refine (HAr.out _).mono ?_
        rintro e w' ⟨rfl, rfl⟩
        go_wp2_with fail
        refine (HGI.out _ hbr6).mono ?_
        rintro e w7 ⟨A7, n7, c7, q7, rfl, hR7, hq7, hE7⟩
        have hb7 := hR7.bids
        rw [hq7] at hb7
        have hcr7 := (hE7.cell (p := ⟨w2'.heap.size, i, none⟩) hsz6).trans hcr6
        have hsz7 := Nat.lt_of_lt_of_le hsz6 hE7.le
        have hbr7 := hbr6.e hE7
        have hN57 := hN56.e hE7
        have hN67 := hN6.e hE7
        clear hR7 hq7 hcr6 hbr6 hN56 hN6
        go_wp2_with fail
        refine (HP3.out _ _ _ _ hb7).mono ?_
        rintro e w8 ⟨rfl, hE8⟩
        have hcr8 := (hE8.cell (p := ⟨w2'.heap.size, i, none⟩) hsz7).trans hcr7
        have hbr8 := hbr7.e hE8
        have hN58 := hN57.e hE8
        have hN68 := hN67.e hE8
        clear hb7 hcr7 hbr7 hN57 hN67
        simp only
        go_wp2_with fail
        refine (HP4.out _ hbr8).mono ?_
        rintro e w9 ⟨rfl, hE9⟩
        have HSame := Lib.hid (sameInts_e A5 A6 n5 c5 n6 c6 (ints pl) (ints pl) w9 (hN58.e hE9) (hN68.e hE9))
        rw [show sameB (ints pl) (ints pl) = true by simp [sameB]] at HSame
        have hEE := (((((hE.trans hE4).trans hE5).trans hE6).trans hE7).trans hE8).trans hE9
        clear hbr8 hcr8 hN58 hN68 HP1 HP2 HP3 HP4 HGI
        simp only
        go_wp2_with fail
        refine HSame.out.mono ?_
        rintro e wa ⟨rfl, hEa⟩
        go_wp2_with fail
        exact ⟨⟨i + 1, by omega, by go_num, hEE.trans hEa⟩, by simp [intOf]; omega⟩
    · go_wp2_with fail
      refine (lives28_c _).mono ?_
      rintro e w8 ⟨rfl, hE8⟩
      go_wp2_with fail
      go_ret
      exact ⟨rfl, (hEw3.trans hE).trans hE8⟩
end Go.Proofs.Ytkcbdnaampiedaa
