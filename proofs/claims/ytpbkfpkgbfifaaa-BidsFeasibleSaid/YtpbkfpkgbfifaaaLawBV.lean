/- The walk of BidsValid. -/
import Derived.Test.YtpbkfpkgbfifaaaKGn
import Derived.Test.YtpbkfpkgbfifaaaKSp
import Derived.Test.YtpbkfpkgbfifaaaKZ
namespace Go.Proofs.Ytpbkfpkgbfifaaa
open Go.RowKit

theorem gen_lots7 {K : Int} {T : TypeId} {w : World} {base : Nat} {A : Option Addr} {n c : Nat} {q : List (Bd × Sl)} (hR : BRow T w base A n c q) {l : List Bd} (hq : q.map Prod.fst = l) (hg : Gen K l) (hK : K ≤ 8) (hK1 : 1 ≤ K) : ∀ p ∈ q, p.2.2.1 ≤ 1000 := fun p hp => by
  have h1 := gen_1000 hg hK hK1 p.1 (by rw [← hq]; exact List.mem_map_of_mem hp)
  have h2 := (hR.2.2 p hp).2.2.1.len
  omega
theorem keepE2 {w1 w2 : World} (hE : E w1 w2) : w1.heap.size ≤ w2.heap.size ∧ ∀ b o, b < w1.heap.size → w2.cell? ⟨b, o, none⟩ = w1.cell? ⟨b, o, none⟩ := ⟨hE.le, fun b o hb => hE.cell (p := ⟨b, o, none⟩) hb⟩
set_option maxHeartbeats 8000000 in
set_option maxRecDepth 100000 in
theorem bidsValid_w (N at_ how by_ : Int) (A : Option Addr) (n c : Nat) (l : List Int) (w : World) (h : Nums .i64 w A n c l) (hN1 : -9223372036854775808 ≤ N) (hN2 : N ≤ 9223372036854775807) (ha1 : -9223372036854775808 ≤ at_) (ha2 : at_ ≤ 9223372036854775807) (hh1 : -9223372036854775808 ≤ how) (hh2 : how ≤ 9223372036854775807) (hb1 : -9223372036854775808 ≤ by_) (hb2 : by_ ≤ 9223372036854775807) :
    Calls Try.prog 3 #[.int .i64 N, .slice A n c, .int .i64 at_, .int .i64 how, .int .i64 by_] w (RetK w true) := by
  have hr := aroN_range N (m := 8) (by omega)
  have HL := Lib.hid (lots27_c N w hN1 hN2)
  obtain ⟨K, hK⟩ : ∃ K : Nat, 1 + aroN N 8 = K := ⟨(1 + aroN N 8).toNat, by omega⟩
  rw [hK] at HL
  have hK1 : 1 ≤ K := by omega
  have hK8 : K ≤ 8 := by omega
  clear hK hr
  have HB := Lib.hid (bids27_c K 12 A n c l w h hK1 hK8 (by omega))
  have HA1 := Lib.hid (fun W => around1_c by_ 12 W hb1 hb2 (by omega) (by omega))
  have HA2 := Lib.hid (fun W => around1_c N 12 W hN1 hN2 (by omega) (by omega))
  have hra := aroN_range by_ (m := 12) (by omega)
  have hrb := aroN_range N (m := 12) (by omega)
  generalize aroN by_ 12 = ra at *
  generalize aroN N 12 = rb at *
  obtain ⟨ra0, ra1⟩ := hra
  obtain ⟨rb0, rb1⟩ := hrb
  go_enter Try.func3, Try.ntmps3
  go_wp2_with fail
  refine HL.out.mono ?_
  rintro e w' ⟨rfl, rfl⟩
  go_wp2_with fail
  refine HB.out.mono ?_
  rintro e w1 ⟨lb, hlb, hgen, A1, n1, c1, q1, rfl, hR1, hq1, hE1⟩
  have hn1 : n1 ≤ 12 := by rw [← hR1.1, ← List.length_map (f := Prod.fst), hq1]; exact hlb
  have HSP := Lib.hid (fun x hx1 hx2 W hW => spoilt_c A1 n1 c1 q1 at_ how x W _ (hR1.e hW) (by omega) ha1 ha2 hh1 hh2 hx1 hx2 (gen_lots7 hR1 hq1 hgen (by omega) (by omega)))
  have hbd1 := hR1.bids
  clear hq1 hgen hlb hR1 HB HL ha1 ha2 hh1 hh2
  go_wp2_with fail
  refine (HSP.out by_ hb1 hb2 _ (E.refl _)).mono ?_
  rintro e w2 ⟨A2, c2, q2, rfl, hR2, hl2, hE2⟩
  have hbd2 := hR2.bids
  have hEw2 := hE1.trans hE2
  have hbd12 := hbd1.e hE2
  clear hR2 hl2
  go_wp2_with fail
  refine (HA1.out _).mono ?_
  rintro e w' ⟨rfl, rfl⟩
  go_wp2_with fail
  refine (HSP.out (ra - 2) (by omega) (by omega) _ hE2).mono ?_
  rintro e w3 ⟨A3, c3, q3, rfl, hR3, hl3, hE3⟩
  have hbd3 := hR3.bids
  have hEw3 := hEw2.trans hE3
  have hbd13 := hbd12.e hE3
  have hbd23 := hbd2.e hE3
  clear hR3 hl3 HSP hbd1 hbd12 hbd2 HA1
  obtain ⟨w4, hw4⟩ : ∃ w4, w3.alloc (.cells #[.slice A1 n1 c1, .slice A2 n1 c2, .slice A3 n1 c3] 24) = w4 := ⟨_, rfl⟩
  have hE4 : E w3 w4 := by rw [← hw4]; exact (E.refl _).alloc _
  have hblk : w4.heap[w3.heap.size]? = some (.cells #[.slice A1 n1 c1, .slice A2 n1 c2, .slice A3 n1 c3] 24 (0, 0)) := by rw [← hw4]; exact heap_alloc_new _ _
  have HW4 := Lib.hid hw4
  clear hw4
  go_upto_region 4 with fail
  rw [HW4.out]
  obtain ⟨w5, hw5⟩ : ∃ w5, w4.alloc (.cells #[.int .i64 (K : Int), .int .i64 N, .int .i64 (rb - 1)] 3) = w5 := ⟨_, rfl⟩
  have hE5 : E w4 w5 := by rw [← hw5]; exact (E.refl _).alloc _
  have hblk5 : w5.heap[w4.heap.size]? = some (.cells #[.int .i64 (K : Int), .int .i64 N, .int .i64 (rb - 1)] 3 (0, 0)) := by rw [← hw5]; exact heap_alloc_new _ _
  have hblk' : w5.heap[w3.heap.size]? = some (.cells #[.slice A1 n1 c1, .slice A2 n1 c2, .slice A3 n1 c3] 24 (0, 0)) := (hE5.block (lt_blk hblk)).trans hblk
  have hsz3 := lt_blk hblk'
  have hsz4 := lt_blk hblk5
  have hE45 := hE4.trans hE5
  have HALL := Lib.hid (show ∀ i, i < 3 → ∃ Ai ci li, w5.cell? ⟨w3.heap.size, i, none⟩ = some (.slice Ai n1 ci) ∧ BidsAt w5 Ai n1 ci li from fun i hi => by
    obtain rfl | rfl | rfl : i = 0 ∨ i = 1 ∨ i = 2 := by omega
    · exact ⟨A1, c1, _, cell_of_row _ _ 0 _ _ _ hblk', hbd13.e hE45⟩
    · exact ⟨A2, c2, _, cell_of_row _ _ 1 _ _ _ hblk', hbd23.e hE45⟩
    · exact ⟨A3, c3, _, cell_of_row _ _ 2 _ _ _ hblk', hbd3.e hE45⟩)
  have HLOT := Lib.hid (show ∀ i, i < 3 → ∃ x : Int, w5.cell? ⟨w4.heap.size, i, none⟩ = some (.int .i64 x) ∧ -9223372036854775808 ≤ x ∧ x ≤ 9223372036854775807 from fun i hi => by
    obtain rfl | rfl | rfl : i = 0 ∨ i = 1 ∨ i = 2 := by omega
    · exact ⟨K, cell_of_row _ _ 0 _ _ _ hblk5, by omega, by omega⟩
    · exact ⟨N, cell_of_row _ _ 1 _ _ _ hblk5, hN1, hN2⟩
    · exact ⟨rb - 1, cell_of_row _ _ 2 _ _ _ hblk5, by omega, by omega⟩)
  have HW5 := Lib.hid hw5
  have hEw5 := hEw3.trans hE45
  clear hE1 hE2 hE3 hEw2 hEw3 hE4 hE5 hE45 hbd13 hbd23 hbd3 hblk hblk5 hblk' hw5 HW4 hb1 hb2
  go_wp2_with fail
  refine (HA2.out _).mono ?_
  rintro e w' ⟨rfl, rfl⟩
  go_wp2_with fail
  rw [HW5.out]
  clear HW5
  go_loopw [15] (fun ti wr => ∃ i : Nat, i ≤ 3 ∧ ti = .int .i64 i ∧ E w5 wr) (fun ti _ => 3 - (intOf ti).toNat)
  case atStart => exact ⟨0, Nat.zero_le _, rfl, E.refl _⟩
  case round =>
    obtain ⟨i, hi, rfl, hE⟩ := hrel
    by_cases hi3 : (i : Int) < 3
    · obtain ⟨Ai, ci, li, hci, hbi⟩ := HALL.out i (by omega)
      go_wp2_with fail
      go_loopw [16] (fun tj wr => ∃ j : Nat, j ≤ 3 ∧ tj = .int .i64 j ∧ E w5 wr) (fun tj _ => 3 - (intOf tj).toNat)
      case atStart => exact ⟨0, Nat.zero_le _, rfl, hE⟩
      case round =>
        clear hE
        obtain ⟨j, hj, rfl, hE⟩ := hrel
        by_cases hj3 : (j : Int) < 3
        · obtain ⟨x, hcx, hx1, hx2⟩ := HLOT.out j (by omega)
          have hcr := (hE.cell (p := ⟨w3.heap.size, i, none⟩) hsz3).trans hci
          have hxr := (hE.cell (p := ⟨w4.heap.size, j, none⟩) hsz4).trans hcx
          have hbr := hbi.e hE
          have hs3 : w3.heap.size < wr.heap.size := Nat.lt_of_lt_of_le hsz3 hE.le
          have hs4 : w4.heap.size < wr.heap.size := Nat.lt_of_lt_of_le hsz4 hE.le
          have HG := Lib.hid (fun W (hW : E wr W) => given7_c _ _ _ _ W (hbr.e hW) (by omega))
          have HV := Lib.hid (fun W (hW : E wr W) => refValid_c x _ _ _ _ W (hbr.e hW) hx1 hx2)
          have HV2 := Lib.hid (fun W A4 n4 c4 (hb : BidsAt W A4 n4 c4 li) => valid_c x A4 n4 c4 li W hb hx1 hx2)
          generalize validS x li = vs at *
          have e0 : (vs != vs) = false := by simp
          clear hcx hbr
          go_wp2_with fail
          go_region_held3 (fun w' => wr.heap.size ≤ w'.heap.size ∧ ∀ b o, b < wr.heap.size → w'.cell? ⟨b, o, none⟩ = wr.cell? ⟨b, o, none⟩) (first | exact keepE2 ((E.refl _).drew) | exact keepE2 hEa | exact keepE2 hEb | exact keepE2 hEc)
            (first
              | (go_at_call 17; refine (HG.out _ ((E.refl wr).drew)).mono ?_; rintro e wa ⟨A4, n4, c4, q4, rfl, hR4, hq4, hE4⟩; have hEa := ((E.refl wr).drew).trans hE4; have hb4 := hR4.bids; rw [hq4] at hb4; clear hR4 hq4)
              | (go_at_call 16; refine (HV2.out _ _ _ _ hb4).mono ?_; rintro e wb ⟨rfl, hE5⟩; have hEb := hEa.trans hE5)
              | (go_at_call 18; refine (HV.out _ hEb).mono ?_; rintro e wc ⟨rfl, hE6⟩; have hEc := hEb.trans hE6))
          all_goals
            go_wp2_with fail
            exact ⟨⟨j + 1, by omega, by go_num, hE.trans hEc⟩, by simp [intOf]; omega⟩
        · go_wp2_with fail
          exact ⟨⟨i + 1, by omega, by go_num, hE⟩, by simp [intOf]; omega⟩
    · have HLi := Lib.hid (lives27_c wr)
      go_wp2_with fail
      refine HLi.out.mono ?_
      rintro e w6 ⟨rfl, hE6⟩
      go_wp2_with fail
      go_ret
      exact ⟨rfl, (hEw5.trans hE).trans hE6⟩
end Go.Proofs.Ytpbkfpkgbfifaaa
