/- Lemmas of the claim, joined: LawSl. No condition. -/
import Derived.Test.YtgbamgijpgjmgaaBL
import Derived.Test.YtgbamgijpgjmgaaBF
import Derived.Test.YtgbamgijpgjmgaaBM
/- LotsSlice. -/
namespace Go.Proofs.Ytgbamgijpgjmgaa
open Go.RowKit Go.Shelf

theorem slice_both (q : List Lt) (m k : Int) (m1 : -9223372036854775808 ≤ m) (m2 : m ≤ 9223372036854775807) (k1 : -9223372036854775808 ≤ k) (k2 : k ≤ 9223372036854775807) : ∃ r : List Lt × Int, ∀ (A : Option Addr) (n c : Nat) (W : World), LotsAt W A n c q → Calls Try.prog 20 #[.slice A n c, .int .i64 m, .int .i64 k] W (RetLE W r) ∧ Calls Try.prog 21 #[.slice A n c, .int .i64 m, .int .i64 k] W (RetLE W r) :=
  ⟨sliceS q m k, fun A n c W h => ⟨slice_c m k A n c q W h m1 m2 k1 k2, refSlice_c m k A n c q W h m1 m2⟩⟩
set_option maxHeartbeats 16000000 in
set_option maxRecDepth 100000 in
theorem lotsSlice_w (m k : Int) (A : Option Addr) (n c : Nat) (raw : List Lt) (A' : Option Addr) (n' c' : Nat) (l : List Int) (w : World) (h : LotsAt w A n c raw) (h' : Nums .i64 w A' n' c' l) (m1 : -9223372036854775808 ≤ m) (m2 : m ≤ 9223372036854775807) (k1 : -9223372036854775808 ≤ k) (k2 : k ≤ 9223372036854775807) :
    Calls Try.prog 4 #[.slice A n c, .slice A' n' c', .int .i64 m, .int .i64 k] w fun e w' => e = .returned (.bool true) ∧ E w w' := by
  have HF := Lib.hid (few_c A n c raw w h)
  have HG := Lib.hid (fun W (hE : E w W) => lots14_c 0 A' n' c' l W (h'.e hE) (by omega))
  clear h h'
  go_enter Try.func4, Try.ntmps4
  go_wp2_with fail
  refine HF.out.mono ?_
  rintro e w1 ⟨A1, n1, c1, rfl, hO1, hE1⟩
  go_wp2_with fail
  refine (HG.out _ hE1).mono ?_
  rintro e w2 ⟨q, hlq, hgq, A2, n2, c2, rfl, hO2, hE2⟩
  have hRow := rowL2 (hO1.reads.e hE2) hO2.reads (few_len raw) (by omega)
  have hE3 := (hE1.trans hE2).alloc (.cells #[.slice A1 n1 c1, .slice A2 n2 c2] 22)
  obtain ⟨w3, hw3⟩ : ∃ w3, w2.alloc (.cells #[.slice A1 n1 c1, .slice A2 n2 c2] 22) = w3 := ⟨_, rfl⟩
  have hB3 : w2.heap.size < w3.heap.size := by rw [← hw3, World.size_alloc]; omega
  rw [hw3] at hRow hE3
  have HW3 := Lib.hid hw3
  have HRow := Lib.hid hRow
  have HE3 := Lib.hid hE3
  clear hw3 hRow hE3 hO1 hO2 hE1 hE2 hgq hlq HF HG
  go_upto_region 2 with fail
  rw [HW3.out]
  clear HW3
  go_wp2_with fail
  go_loopw [10] (fun ti wr => ∃ i : Nat, i ≤ 2 ∧ ti = .int .i64 i ∧ E w3 wr) (fun ti _ => 2 - (intOf ti).toNat)
  case atStart => exact ⟨0, by omega, rfl, E.refl _⟩
  case round =>
    obtain ⟨i, hi, rfl, hE⟩ := hrel
    by_cases hlt : i < 2
    · have hiI : (i : Int) < 2 := by omega
      have hi0 : (0 : Int) ≤ (i : Int) := by omega
      obtain ⟨Ai, ni, ci, qi, cB, hLi, hli⟩ := HRow.out.e hB3 hE i hlt
      have hBr := Nat.lt_of_lt_of_le hB3 hE.le
      have HLi := Lib.hid hLi
      have HTo := Lib.hid (refTotal_c Ai ni ci qi wr hLi)
      have htr := tot_range' (l := qi)
      generalize totalS qi = T at *
      have hwT : IntKind.i64.wrap (T + 2) = T + 2 := by rw [IntKind.wrap_i64]; omega
      have HA := Lib.hid (fun W => aroundR m (T + 2) W m1 m2 (by omega) (by omega))
      have ha0 := Int.emod_nonneg m (show T + 2 ≠ 0 by omega)
      have ha1 := Int.emod_lt_of_pos m (show 0 < T + 2 by omega)
      generalize m % (T + 2) = a at *
      have hwS : IntKind.i64.wrap (T - a) = T - a := by rw [IntKind.wrap_i64]; omega
      have hwS2 : IntKind.i64.wrap (T - a + 2) = T - a + 2 := by rw [IntKind.wrap_i64]; omega
      obtain ⟨p, hp⟩ : ∃ p, max 1 (T - a + 2) = p := ⟨_, rfl⟩
      have HMX := Lib.hid hp
      have HIF := Lib.hid (show (if 1 < T - a + 2 then T - a + 2 else 1) = p by split <;> omega)
      have HK := Lib.hid (fun W => aroundR k p W k1 k2 (by omega) (by omega))
      have hb0 := Int.emod_nonneg k (show p ≠ 0 by omega)
      have hb1 := Int.emod_lt_of_pos k (show 0 < p by omega)
      generalize k % p = b at *
      obtain ⟨r, hr⟩ := slice_both qi m k m1 m2 k1 k2
      obtain ⟨s, hs⟩ := slice_both qi a b (by omega) (by omega) (by omega) (by omega)
      obtain ⟨r1, r2⟩ := r
      obtain ⟨s1, s2⟩ := s
      have HR := Lib.hid (fun W (hW : E wr W) => hr Ai ni ci W (HLi.out.e hW))
      have HS := Lib.hid (fun W (hW : E wr W) => hs Ai ni ci W (HLi.out.e hW))
      have HCs := Lib.hid (fun W (hW : E wr W) => (hW.cell (p := ⟨w2.heap.size, i, none⟩) hBr).trans cB)
      have HEr := Lib.hid hE
      clear hLi hr hs hp ha0 ha1 hb0 hb1 htr HLi hE
      obtain ⟨w5, hw5⟩ : ∃ w5, w5 = wr := ⟨_, rfl⟩
      subst hw5
      go_wp2_with fail
      refine HTo.out.mono ?_
      rintro e w6 ⟨rfl, hE6⟩
      clear cB
      have cB := HCs.out w6 hE6
      have hB6 := Nat.lt_of_lt_of_le hBr hE6.le
      go_wp2_with fail
      refine (HA.out _).mono ?_
      rintro e w7 ⟨rfl, rfl⟩
      go_wp2_with fail
      refine (HR.out _ hE6).1.mono ?_
      rintro e w8 ⟨A4, n4, c4, rfl, hO4, hE8⟩
      have R4 := hO4.reads
      have hE58 := hE6.trans hE8
      clear cB hO4
      have cB := HCs.out w8 hE58
      have hB8 := Nat.lt_of_lt_of_le hBr hE58.le
      go_wp2_with fail
      refine (HR.out _ hE58).2.mono ?_
      rintro e w9 ⟨A5, n5, c5, rfl, hO5, hE9⟩
      have R5 := hO5.reads
      replace R4 := R4.e hE9
      have hE59 := hE58.trans hE9
      clear cB hO5 hE6 hE8 hE9 hE58 hB6 hB8
      have cB := HCs.out w9 hE59
      have hB9 := Nat.lt_of_lt_of_le hBr hE59.le
      have HE59 := Lib.hid hE59
      have R45 := Lib.hid (And.intro R4 R5)
      clear R4 R5 hE59
      go_upto_region 9 with fail
      go_region_held3 (fun w' => w9.heap.size ≤ w'.heap.size ∧ ∀ b o, b < w9.heap.size → w'.cell? ⟨b, o, none⟩ = w9.cell? ⟨b, o, none⟩) (first | exact keepE ((E.refl _).drew) | exact keepE hEa)
        (first
          | (go_at_call 14; (first | rw [HMX.out] | rw [HIF.out]); refine (HK.out _).mono ?_; rintro e wz ⟨rfl, rfl⟩)
          | (go_at_call 20; refine (HS.out _ (HE59.out.drew)).1.mono ?_; rintro e wa ⟨A6, n6, c6, rfl, hO6, hE6⟩; have hEa := ((E.refl w9).drew).trans hE6))
      rename_i hHd
      clear hHd
      have R6 := hO6.reads
      have hE5a := HE59.out.trans hEa
      have hEa9 := Lib.hid hEa
      clear cB hO6 hE6 hEa
      have cB := HCs.out wa hE5a
      have hBa := Nat.lt_of_lt_of_le hBr hE5a.le
      go_upto_region 10 with fail
      go_region_held3 (fun w' => wa.heap.size ≤ w'.heap.size ∧ ∀ b o, b < wa.heap.size → w'.cell? ⟨b, o, none⟩ = wa.cell? ⟨b, o, none⟩) (first | exact keepE ((E.refl _).drew) | exact keepE hEa)
        (first
          | (go_at_call 14; (first | rw [HMX.out] | rw [HIF.out]); refine (HK.out _).mono ?_; rintro e wz ⟨rfl, rfl⟩)
          | (go_at_call 21; refine (HS.out _ (hE5a.drew)).2.mono ?_; rintro e wb ⟨A7, n7, c7, rfl, hO7, hE7⟩; have hEa := ((E.refl wa).drew).trans hE7))
      rename_i hHd
      clear hHd
      have R7 := hO7.reads
      have hE5b := hE5a.trans hEa
      have HS1 := Lib.hid (same_self A4 A5 n4 c4 n5 c5 r1 wb ((R45.out.1.e hEa9.out).e hEa) ((R45.out.2.e hEa9.out).e hEa))
      have HS2 := Lib.hid (fun W (hW : E wb W) => same_self A6 A7 n6 c6 n7 c7 s1 W ((R6.e hEa).e hW) (R7.e hW))
      clear R6 R7 hO7 hE7 hEa hE5a cB
      go_wp2_with fail
      refine HS1.out.mono ?_
      rintro e wc ⟨rfl, hEc⟩
      go_wp2_with fail
      refine (HS2.out _ hEc).mono ?_
      rintro e wd ⟨rfl, hEd⟩
      have hEf := HEr.out.trans (hE5b.trans (hEc.trans hEd))
      go_wp2_with fail
      go_roundw
      case rel => exact ⟨i + 1, by omega, by go_num, hEf⟩
      case measure => simp [intOf]; omega
    · go_wp2_with fail
      refine (lives14_c _).mono ?_
      rintro e w9 ⟨rfl, hE9⟩
      go_wp2_with fail
      go_ret
      exact ⟨rfl, HE3.out.trans (hE.trans hE9)⟩
end Go.Proofs.Ytgbamgijpgjmgaa
