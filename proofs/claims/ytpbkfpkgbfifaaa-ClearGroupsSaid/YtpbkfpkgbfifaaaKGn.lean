/- What the generator gives, for the laws of chapter 27. -/
import Derived.Test.YtpbkfpkgbfifaaaKRu
import Derived.Test.YtpbkfpkgbfifaaaKR
namespace Go.Proofs.Ytpbkfpkgbfifaaa
open Go.RowKit

theorem lotsOk_short : ∀ (l : List Int) (n last : Int), lotsOk n last l = true → last < n → (l.length : Int) ≤ n - last - 1
  | [], n, last, _, h => by simp; omega
  | t :: l, n, last, h, _ => by
    simp only [lotsOk, Bool.and_eq_true, decide_eq_true_eq] at h
    have := lotsOk_short l n t h.2 h.1.2
    simp only [List.length_cons]; omega
theorem gen_1000 {K : Int} {l : List Bd} (h : Gen K l) (hK : K ≤ 8) (hK1 : 1 ≤ K) : ∀ x ∈ l, x.2.2.length ≤ 1000 := fun x hx => by
  have := lotsOk_short _ _ _ (bidE_ok (h x hx).1).2.2.2 (by omega)
  omega
theorem gen_pr {K : Int} {l : List Bd} (h : Gen K l) (i : Nat) : 0 ≤ pr l i ∧ pr l i ≤ 1099511627776 :=
  pr_all (fun x hx => by obtain ⟨_, b, c, _⟩ := bidE_ok (h x hx).1; omega) i
theorem sameB_self (l : List Int) : sameB l l = true := by simp [sameB]

theorem and_i64 (a b : Nat) (ha : a < 1024) (hb : b < 1024) : bits .and .i64 (a : Int) (b : Int) = ((a &&& b : Nat) : Int) := by
  have hx : a &&& b ≤ a := Nat.and_le_left
  have h1 : (BitVec.ofInt 64 (a : Int)).toNat = a := by
    rw [BitVec.ofInt_natCast, BitVec.toNat_ofNat]; exact Nat.mod_eq_of_lt (by omega)
  have h2 : (BitVec.ofInt 64 (b : Int)).toNat = b := by
    rw [BitVec.ofInt_natCast, BitVec.toNat_ofNat]; exact Nat.mod_eq_of_lt (by omega)
  show IntKind.i64.wrap ((BitVec.ofInt 64 (a : Int) &&& BitVec.ofInt 64 (b : Int)).toNat : Int) = _
  rw [BitVec.toNat_and, h1, h2, IntKind.wrap_i64]
  omega
theorem tdiv_range {x : Int} (h1 : -9223372036854775808 ≤ x) (h2 : x ≤ 9223372036854775807) : -9223372036854775808 ≤ x.tdiv 1024 ∧ x.tdiv 1024 ≤ 9223372036854775807 := by
  have h : (x.tdiv 1024).natAbs = x.natAbs / 1024 := Int.natAbs_tdiv x 1024
  omega
set_option maxHeartbeats 4000000 in
set_option maxRecDepth 100000 in
theorem bidsReduce_w (N : Int) (A : Option Addr) (n c : Nat) (l : List Int) (w : World) (h : Nums .i64 w A n c l) (hN1 : -9223372036854775808 ≤ N) (hN2 : N ≤ 9223372036854775807) :
    Calls Try.prog 4 #[.int .i64 N, .slice A n c] w (RetK w true) := by
  have hr := aroN_range N (m := 8) (by omega)
  have HL := Lib.hid (lots27_c N w hN1 hN2)
  obtain ⟨K, hK⟩ : ∃ K : Nat, 1 + aroN N 8 = K := ⟨(1 + aroN N 8).toNat, by omega⟩
  rw [hK] at HL
  have hK1 : 1 ≤ K := by omega
  have hK8 : K ≤ 8 := by omega
  clear hK hr
  have HB := Lib.hid (bids27_c K 10 A n c l w h hK1 hK8 (by omega))
  go_enter Try.func4, Try.ntmps4
  go_wp2_with fail
  refine HL.out.mono ?_
  rintro e w' ⟨rfl, rfl⟩
  go_wp2_with fail
  refine HB.out.mono ?_
  rintro e w1 ⟨lb, hlb, hgen, A1, n1, c1, q1, rfl, hR1, hq1, hE1⟩
  have hn1 : n1 ≤ 10 := by rw [← hR1.1, ← List.length_map (f := Prod.fst), hq1]; exact hlb
  have hbd1 := hR1.bids
  rw [hq1] at hbd1
  have HG := Lib.hid (given7_c _ _ _ _ _ hbd1 (by omega))
  clear HB HL hq1 hR1 hgen
  go_wp2_with fail
  refine HG.out.mono ?_
  rintro e w2 ⟨A2, n2, c2, q2, rfl, hR2, hq2, hE2⟩
  have hbd2 := hR2.bids
  rw [hq2] at hbd2
  have hn2 : n2 ≤ 10 := by rw [← hbd2.len]; exact hlb
  have HR := Lib.hid (reduce_c _ _ _ _ _ hbd2 (by omega))
  clear HG hR2 hq2
  go_wp2_with fail
  refine HR.out.mono ?_
  rintro e w3 ⟨A3, n3, c3, rfl, hO3, hE3⟩
  have HRR := Lib.hid (refReduce_c _ _ _ _ _ ((hbd1.e hE2).e hE3) (by omega))
  clear HR hbd2
  go_wp2_with fail
  refine HRR.out.mono ?_
  rintro e w4 ⟨A4, n4, c4, rfl, hO4, hE4⟩
  have HS := Lib.hid (sameInts_e _ _ _ _ _ _ _ _ _ (hO3.reads.e hE4) hO4.reads)
  rw [sameB_self] at HS
  clear HRR hbd1
  go_wp2_with fail
  refine HS.out.mono ?_
  rintro e w5 ⟨rfl, hE5⟩
  have HLi := Lib.hid (lives27_c w5)
  clear HS hO3 hO4
  go_wp2_with fail
  refine HLi.out.mono ?_
  rintro e w6 ⟨rfl, hE6⟩
  go_wp2_with fail
  go_ret
  exact ⟨rfl, ((((hE1.trans hE2).trans hE3).trans hE4).trans hE5).trans hE6⟩
end Go.Proofs.Ytpbkfpkgbfifaaa
