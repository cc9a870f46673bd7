/- The walk of ClearPrices. -/
import Derived.Test.YtkcbdnaampiedaaKSp
namespace Go.Proofs.Ytkcbdnaampiedaa
open Go.RowKit

theorem gen_lots {K : Nat} {q : List (Bd × Sl)} {T : TypeId} {w : World} {base : Nat} {A : Option Addr} {n c : Nat} (hR : BRow T w base A n c q) {l : List Bd} (hq : q.map Prod.fst = l) (hg : Gen K l) (hK : K ≤ 8) : ∀ p ∈ q, p.2.2.1 ≤ 1000 := fun p hp => by
  have h1 := (hR.2.2 p hp).2.2.1.len
  have h2 := bidE_ok (hg p.1 (by rw [← hq]; exact List.mem_map_of_mem hp)).1
  by_cases h0 : (0 : Int) ≤ K - 1
  · have := lotsOk_len h2.2.2.2 (by omega)
    omega
  · have h3 : p.1.2.2 = [] := by
      cases e : p.1.2.2 with
      | nil => rfl
      | cons t r =>
        have := lotsOk_mem h2.2.2.2 t (by rw [e]; exact List.mem_cons_self)
        omega
    rw [h3] at h1
    simp at h1
    omega
set_option maxHeartbeats 8000000 in
set_option maxRecDepth 100000 in
theorem clearPrices_w (N at_ how by_ : Int) (A : Option Addr) (n c : Nat) (l : List Int) (w : World) (h : Nums .i64 w A n c l) (hN1 : -9223372036854775808 ≤ N) (hN2 : N ≤ 9223372036854775807) (ha1 : -9223372036854775808 ≤ at_) (ha2 : at_ ≤ 9223372036854775807) (hh1 : -9223372036854775808 ≤ how) (hh2 : how ≤ 9223372036854775807) (hb1 : -9223372036854775808 ≤ by_) (hb2 : by_ ≤ 9223372036854775807) :
    Calls Try.prog 3 #[.int .i64 N, .slice A n c, .int .i64 at_, .int .i64 how, .int .i64 by_] w (RetK w true) := by
  have hr := aroN_range N (m := 8) (by omega)
  have HL := Lib.hid (lots27_c N w hN1 hN2)
  obtain ⟨K, hK⟩ : ∃ K : Nat, 1 + aroN N 8 = K := ⟨(1 + aroN N 8).toNat, by omega⟩
  rw [hK] at HL
  have hK1 : 1 ≤ K := by omega
  have hK8 : K ≤ 8 := by omega
  clear hK hr
  have HB := Lib.hid (bids27_c K 7 A n c l w h hK1 hK8 (by omega))
  go_enter Try.func3, Try.ntmps3
  go_wp2_with fail
  refine HL.out.mono ?_
  rintro e w' ⟨rfl, rfl⟩
  go_wp2_with fail
  refine HB.out.mono ?_
  rintro e w1 ⟨lb, hlb, hgen, A1, n1, c1, q1, rfl, hR1, hq1, hE1⟩
  have hn1 : n1 ≤ 7 := by rw [← hR1.1, ← List.length_map (f := Prod.fst), hq1]; exact hlb
  have HSP := Lib.hid (fun W hW => spoilt_c A1 n1 c1 q1 at_ how by_ W _ (hR1.e hW) (by omega) ha1 ha2 hh1 hh2 hb1 hb2 (gen_lots hR1 hq1 hgen hK8))
  have hbd1 := hR1.bids
  clear hq1 hgen hlb hR1 HB HL ha1 ha2 hh1 hh2 hb1 hb2
  go_wp2_with fail
  refine (HSP.out _ (E.refl _)).mono ?_
  rintro e w2 ⟨A2, c2, q2, rfl, hR2, hl2, hE2⟩
  have hbd2 := hR2.bids
  have hEw2 := hE1.trans hE2
  have hbd12 := hbd1.e hE2
  obtain ⟨w3, hw3⟩ : ∃ w3, w2.alloc (.cells #[.slice A1 n1 c1, .slice A2 n1 c2] 24) = w3 := ⟨_, rfl⟩
  have hE3 : E w2 w3 := by rw [← hw3]; exact (E.refl _).alloc _
  have hblk : w3.heap[w2.heap.size]? = some (.cells #[.slice A1 n1 c1, .slice A2 n1 c2] 24 (0, 0)) := by rw [← hw3]; exact heap_alloc_new _ _
  have hsz : w2.heap.size < w3.heap.size := by rw [← hw3]; simp
  have HALL := Lib.hid (show ∀ i, i < 2 → ∃ Ai ci li, w3.cell? ⟨w2.heap.size, i, none⟩ = some (.slice Ai n1 ci) ∧ BidsAt w3 Ai n1 ci li from fun i hi => by
    obtain rfl | rfl : i = 0 ∨ i = 1 := by omega
    · exact ⟨A1, c1, _, cell_of_row _ _ 0 _ _ _ hblk, hbd12.e hE3⟩
    · exact ⟨A2, c2, _, cell_of_row _ _ 1 _ _ _ hblk, hbd2.e hE3⟩)
  have HW3 := Lib.hid hw3
  have hEw3 := hEw2.trans hE3
  clear hE1 hE2 hE3 hEw2 hbd1 hbd2 hbd12 hblk hR2 hl2 HSP hw3
  go_wp2_with fail
  rw [HW3.out]
  clear HW3
  go_loopw [14] (fun ti wr => ∃ i : Nat, i ≤ 2 ∧ ti = .int .i64 i ∧ E w3 wr) (fun ti _ => 2 - (intOf ti).toNat)
  case atStart => exact ⟨0, Nat.zero_le _, rfl, E.refl _⟩
  case round =>
    obtain ⟨i, hi, rfl, hE⟩ := hrel
    by_cases hi2 : (i : Int) < 2
    · obtain ⟨Ai, ci, li, hci, hbi⟩ := HALL.out i (by omega)
      have hcr := (hE.cell (p := ⟨w2.heap.size, i, none⟩) hsz).trans hci
      have hbr := hbi.e hE
      clear hci hbi
      go_wp2_with fail
      refine (given_c _ _ _ _ _ hbr (by omega)).mono ?_
      rintro e w4 ⟨A4, n4, c4, q4, rfl, hR4, hq4, hE4⟩
      have hb4 := hR4.bids
      rw [hq4] at hb4
      have HP1 := Lib.hid (fun W hW => cPrices_c (K : Int) A4 n4 c4 li W (hb4.e hW) (by omega) (by omega))
      have HP2 := Lib.hid (fun W hW => rPrices_c (K : Int) Ai n1 ci li W (hbr.e hW) (by omega) (by omega))
      have hcr4 := (hE4.cell (p := ⟨w2.heap.size, i, none⟩) (Nat.lt_of_lt_of_le hsz hE.le)).trans hcr
      have hsz4 : w2.heap.size < w4.heap.size := Nat.lt_of_lt_of_le (Nat.lt_of_lt_of_le hsz hE.le) hE4.le
      generalize pricesF (K : Int) li = pf at *
      obtain ⟨pl, pe⟩ := pf
      have hpe : (pe != pe) = false := by simp
      clear hR4 hq4 hb4 hcr hbr
      go_wp2_with fail
      refine (HP1.out _ (E.refl _)).mono ?_
      rintro e w5 ⟨A5, n5, c5, rfl, hO5, hE5⟩
      have hcr5 := (hE5.cell (p := ⟨w2.heap.size, i, none⟩) hsz4).trans hcr4
      simp only at hO5 ⊢
      have hO5' : Own .i64 3 w5 w4.heap.size A5 n5 c5 pl := hO5
      clear hcr4 hO5
      go_wp2_with fail
      refine (HP2.out _ (hE4.trans hE5)).mono ?_
      rintro e w6 ⟨A6, n6, c6, rfl, hO6, hE6⟩
      have hO6' : Own .i64 3 w6 w5.heap.size A6 n6 c6 pl := hO6
      have HSame := Lib.hid (sameInts_e A5 A6 n5 c5 n6 c6 pl pl w6 (hO5'.reads.e hE6) hO6'.reads)
      rw [show sameB pl pl = true by simp [sameB]] at HSame
      have hEE := (hE.trans hE4).trans (hE5.trans hE6)
      clear hO6 hO6' hO5' HP1 HP2
      simp only
      go_wp2_with fail
      refine HSame.out.mono ?_
      rintro e w7 ⟨rfl, hE7⟩
      go_wp2_with fail
      exact ⟨⟨i + 1, by omega, by go_num, hEE.trans hE7⟩, by simp [intOf]; omega⟩
    · go_wp2_with fail
      refine (lives28_c _).mono ?_
      rintro e w8 ⟨rfl, hE8⟩
      go_wp2_with fail
      go_ret
      exact ⟨rfl, (hEw3.trans hE).trans hE8⟩
end Go.Proofs.Ytkcbdnaampiedaa
