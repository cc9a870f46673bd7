/- Lemmas of the claim, joined: LawTk. No condition. -/
import Derived.Test.YtgbamgijpgjmgaaBL
import Derived.Test.YtgbamgijpgjmgaaBF
import Derived.Test.YtgbamgijpgjmgaaBM
/- LotsTake. -/
namespace Go.Proofs.Ytgbamgijpgjmgaa
open Go.RowKit Go.Shelf

theorem take_both (q : List Lt) (m : Int) (mixed : Bool) : ∃ r : List Lt × List Lt × Int, ∀ (A : Option Addr) (n c : Nat) (W : World), LotsAt W A n c q → Calls Try.prog 16 #[.slice A n c, .int .i64 m, .bool mixed] W (RetTk W r) ∧ Calls Try.prog 17 #[.slice A n c, .int .i64 m, .bool mixed] W (RetTk W r) :=
  ⟨takeS q m mixed, fun A n c W h => ⟨take_c m mixed A n c q W h, refTake_c m mixed A n c q W h⟩⟩
set_option maxHeartbeats 16000000 in
set_option maxRecDepth 100000 in
theorem lotsTake_w (m : Int) (A : Option Addr) (n c : Nat) (raw : List Lt) (A' : Option Addr) (n' c' : Nat) (l : List Int) (w : World) (h : LotsAt w A n c raw) (h' : Nums .i64 w A' n' c' l) (m1 : -9223372036854775808 ≤ m) (m2 : m ≤ 9223372036854775807) :
    Calls Try.prog 3 #[.slice A n c, .slice A' n' c', .int .i64 m] w fun e w' => e = .returned (.bool true) ∧ E w w' := by
  have HF := Lib.hid (few_c A n c raw w h)
  have HG := Lib.hid (fun W (hE : E w W) => lots14_c 0 A' n' c' l W (h'.e hE) (by omega))
  have hm1 : (Lit.int .i64 m).wf = true := wf_of_i64 m1 m2
  clear h h'
  go_enter Try.func3, Try.ntmps3
  go_wp2_with fail
  refine HF.out.mono ?_
  rintro e w1 ⟨A1, n1, c1, rfl, hO1, hE1⟩
  go_wp2_with fail
  refine (HG.out _ hE1).mono ?_
  rintro e w2 ⟨q, hlq, hgq, A2, n2, c2, rfl, hO2, hE2⟩
  have hRow := rowL2 (hO1.reads.e hE2) hO2.reads (few_len raw) (by omega)
  have hE3 := (hE1.trans hE2).alloc (.cells #[.slice A1 n1 c1, .slice A2 n2 c2] 22)
  obtain ⟨w3, hw3⟩ : ∃ w3, w2.alloc (.cells #[.slice A1 n1 c1, .slice A2 n2 c2] 22) = w3 := ⟨_, rfl⟩
  have hB3 : w2.heap.size < w3.heap.size := by rw [← hw3, World.size_alloc]; omega
  rw [hw3] at hRow hE3
  have HW3 := Lib.hid hw3
  have HRow := Lib.hid hRow
  have HE3 := Lib.hid hE3
  clear hw3 hRow hE3 hO1 hO2 hE1 hE2 hgq hlq HF HG
  go_upto_region 2 with fail
  rw [HW3.out]
  clear HW3
  go_wp2_with fail
  go_loopw [8] (fun ti wr => ∃ i : Nat, i ≤ 2 ∧ ti = .int .i64 i ∧ E w3 wr) (fun ti _ => 2 - (intOf ti).toNat)
  case atStart => exact ⟨0, by omega, rfl, E.refl _⟩
  case round =>
    obtain ⟨i, hi, rfl, hE⟩ := hrel
    by_cases hlt : i < 2
    · have hiI : (i : Int) < 2 := by omega
      have hi0 : (0 : Int) ≤ (i : Int) := by omega
      obtain ⟨Ai, ni, ci, qi, cB, hLi, hli⟩ := HRow.out.e hB3 hE i hlt
      have hBr := Nat.lt_of_lt_of_le hB3 hE.le
      have HLi := Lib.hid hLi
      have HTo := Lib.hid (refTotal_c Ai ni ci qi wr hLi)
      have htr := tot_range' (l := qi)
      generalize totalS qi = T at *
      have hwT : IntKind.i64.wrap (T + 2) = T + 2 := by rw [IntKind.wrap_i64]; omega
      have HA := Lib.hid (fun W => aroundR m (T + 2) W m1 m2 (by omega) (by omega))
      have ha0 := Int.emod_nonneg m (show T + 2 ≠ 0 by omega)
      have ha1 := Int.emod_lt_of_pos m (show 0 < T + 2 by omega)
      generalize m % (T + 2) = a at *
      have hwa : (Lit.int .i64 a).wf = true := wf_of_i64 (by omega) (by omega)
      obtain ⟨w5, hw5⟩ : ∃ w5, w5 = wr := ⟨_, rfl⟩
      subst hw5
      clear hLi
      go_wp2_with fail
      refine HTo.out.mono ?_
      rintro e w6 ⟨rfl, hE6⟩
      go_wp2_with fail
      refine (HA.out _).mono ?_
      rintro e w7 ⟨rfl, rfl⟩
      have hE8 := hE6.alloc (.cells #[.int .i64 m, .int .i64 a] 3)
      have hc8 := heap_alloc_new w6 (.cells #[.int .i64 m, .int .i64 a] 3)
      have hB6 := Nat.lt_of_lt_of_le hBr hE6.le
      obtain ⟨w8, hw8⟩ : ∃ w8, w6.alloc (.cells #[.int .i64 m, .int .i64 a] 3) = w8 := ⟨_, rfl⟩
      rw [hw8] at hE8 hc8
      have hC8 : w6.heap.size < w8.heap.size := by rw [← hw8, World.size_alloc]; omega
      have HW8 := Lib.hid hw8
      have cB8 : w8.cell? ⟨w2.heap.size, i, none⟩ = some (.slice Ai ni ci) := (hE8.cell (p := ⟨w2.heap.size, i, none⟩) hBr).trans cB
      have cC0 := cell_of_row _ _ 0 _ _ _ hc8
      have cC1 := cell_of_row _ _ 1 _ _ _ hc8
      simp only [List.getElem?_toArray, List.getElem?_cons_zero, List.getElem?_cons_succ] at cC0 cC1
      have hB8 : w2.heap.size < w8.heap.size := by omega
      have HCs := Lib.hid (fun W (hW : E w8 W) => And.intro ((hW.cell (p := ⟨w2.heap.size, i, none⟩) hB8).trans cB8) (And.intro ((hW.cell (p := ⟨w6.heap.size, 0, none⟩) hC8).trans cC0) ((hW.cell (p := ⟨w6.heap.size, 1, none⟩) hC8).trans cC1)))
      have HL8 := Lib.hid (HLi.out.e hE8)
      have HE8 := Lib.hid (hE.trans hE8)
      clear hw8 cB8 cC0 cC1 hc8 hE6 hE8 ha0 ha1 htr hwT HTo HA cB
      go_upto_region 6 with fail
      rw [HW8.out]
      clear HW8
      go_wp2_with fail
      go_loopw [10] (fun tk wr => ∃ k : Nat, k ≤ 4 ∧ tk = .int .i64 k ∧ E w8 wr) (fun tk _ => 4 - (intOf tk).toNat)
      case atStart => exact ⟨0, by omega, rfl, E.refl _⟩
      case round =>
        obtain ⟨k, hk, rfl, hEk⟩ := hrel
        by_cases hlt4 : k < 4
        · obtain ⟨kB, k0, k1⟩ := HCs.out wr hEk
          have hBk := Nat.lt_of_lt_of_le hB8 hEk.le
          have hCk := Nat.lt_of_lt_of_le hC8 hEk.le
          have hL := HL8.out.e hEk
          have HL := Lib.hid hL
          have hkk : k = 0 ∨ k = 1 ∨ k = 2 ∨ k = 3 := by omega
          clear hL hk hlt4
          rcases hkk with rfl | rfl | rfl | rfl
          · obtain ⟨r, hr⟩ := take_both qi m false
            obtain ⟨r1, r2, r3⟩ := r
            have HT := Lib.hid (fun W (hW : E wr W) => hr Ai ni ci W (HL.out.e hW))
            clear hr
            go_upto_region 9 with fail
            go_region_held3 (fun w' => wr.heap.size ≤ w'.heap.size ∧ ∀ b o, b < wr.heap.size → w'.cell? ⟨b, o, none⟩ = wr.cell? ⟨b, o, none⟩) (first | exact keepE ((E.refl _).drew) | exact keepE hEa)
              (first | (go_at_call 16; refine (HT.out _ ((E.refl wr).drew)).1.mono ?_; rintro e wa ⟨A4, n4, c4, A5, n5, c5, rfl, hO4, hO5, hE4⟩; have hEa := ((E.refl wr).drew).trans hE4))
            rename_i hHd
            clear hHd
            have hEa2 := hEa
            have hEka := hEk.trans hEa
            obtain ⟨kB, k0, k1⟩ := HCs.out wa hEka
            have hBk := Nat.lt_of_lt_of_le hB8 hEka.le
            have hCk := Nat.lt_of_lt_of_le hC8 hEka.le
            have R4 := hO4.reads
            have R5 := hO5.reads
            clear hO4 hO5 hE4 hEa
            go_upto_region 10 with fail
            go_region_held3 (fun w' => wa.heap.size ≤ w'.heap.size ∧ ∀ b o, b < wa.heap.size → w'.cell? ⟨b, o, none⟩ = wa.cell? ⟨b, o, none⟩) (first | exact keepE ((E.refl _).drew) | exact keepE hEa)
              (first | (go_at_call 17; refine (HT.out _ (hEa2.drew)).2.mono ?_; rintro e wb ⟨A6, n6, c6, A7, n7, c7, rfl, hO6, hO7, hE6⟩; have hEa := ((E.refl wa).drew).trans hE6))
            rename_i hHd
            clear hHd
            have R6 := hO6.reads
            have R7 := hO7.reads
            have hEkb := hEka.trans hEa
            have HS1 := Lib.hid (same_self A4 A6 n4 c4 n6 c6 r1 wb (R4.e hEa) R6)
            have HS2 := Lib.hid (fun W (hW : E wb W) => same_self A5 A7 n5 c5 n7 c7 r2 W ((R5.e hEa).e hW) (R7.e hW))
            clear R4 R5 R6 R7 hO6 hO7 hE6 hEa hEa2 hEka
            go_wp2_with fail
            refine HS1.out.mono ?_
            rintro e wc ⟨rfl, hEc⟩
            go_wp2_with fail
            refine (HS2.out _ hEc).mono ?_
            rintro e wd ⟨rfl, hEd⟩
            have hEf := hEkb.trans (hEc.trans hEd)
            go_wp2_with fail
            go_roundw
            case rel => exact ⟨0 + 1, by omega, by go_num, hEf⟩
            case measure => simp [intOf]
          · obtain ⟨r, hr⟩ := take_both qi a false
            obtain ⟨r1, r2, r3⟩ := r
            have HT := Lib.hid (fun W (hW : E wr W) => hr Ai ni ci W (HL.out.e hW))
            clear hr
            go_upto_region 9 with fail
            go_region_held3 (fun w' => wr.heap.size ≤ w'.heap.size ∧ ∀ b o, b < wr.heap.size → w'.cell? ⟨b, o, none⟩ = wr.cell? ⟨b, o, none⟩) (first | exact keepE ((E.refl _).drew) | exact keepE hEa)
              (first | (go_at_call 16; refine (HT.out _ ((E.refl wr).drew)).1.mono ?_; rintro e wa ⟨A4, n4, c4, A5, n5, c5, rfl, hO4, hO5, hE4⟩; have hEa := ((E.refl wr).drew).trans hE4))
            rename_i hHd
            clear hHd
            have hEa2 := hEa
            have hEka := hEk.trans hEa
            obtain ⟨kB, k0, k1⟩ := HCs.out wa hEka
            have hBk := Nat.lt_of_lt_of_le hB8 hEka.le
            have hCk := Nat.lt_of_lt_of_le hC8 hEka.le
            have R4 := hO4.reads
            have R5 := hO5.reads
            clear hO4 hO5 hE4 hEa
            go_upto_region 10 with fail
            go_region_held3 (fun w' => wa.heap.size ≤ w'.heap.size ∧ ∀ b o, b < wa.heap.size → w'.cell? ⟨b, o, none⟩ = wa.cell? ⟨b, o, none⟩) (first | exact keepE ((E.refl _).drew) | exact keepE hEa)
              (first | (go_at_call 17; refine (HT.out _ (hEa2.drew)).2.mono ?_; rintro e wb ⟨A6, n6, c6, A7, n7, c7, rfl, hO6, hO7, hE6⟩; have hEa := ((E.refl wa).drew).trans hE6))
            rename_i hHd
            clear hHd
            have R6 := hO6.reads
            have R7 := hO7.reads
            have hEkb := hEka.trans hEa
            have HS1 := Lib.hid (same_self A4 A6 n4 c4 n6 c6 r1 wb (R4.e hEa) R6)
            have HS2 := Lib.hid (fun W (hW : E wb W) => same_self A5 A7 n5 c5 n7 c7 r2 W ((R5.e hEa).e hW) (R7.e hW))
            clear R4 R5 R6 R7 hO6 hO7 hE6 hEa hEa2 hEka
            go_wp2_with fail
            refine HS1.out.mono ?_
            rintro e wc ⟨rfl, hEc⟩
            go_wp2_with fail
            refine (HS2.out _ hEc).mono ?_
            rintro e wd ⟨rfl, hEd⟩
            have hEf := hEkb.trans (hEc.trans hEd)
            go_wp2_with fail
            go_roundw
            case rel => exact ⟨1 + 1, by omega, by go_num, hEf⟩
            case measure => simp [intOf]
          · obtain ⟨r, hr⟩ := take_both qi m true
            obtain ⟨r1, r2, r3⟩ := r
            have HT := Lib.hid (fun W (hW : E wr W) => hr Ai ni ci W (HL.out.e hW))
            clear hr
            go_upto_region 9 with fail
            go_region_held3 (fun w' => wr.heap.size ≤ w'.heap.size ∧ ∀ b o, b < wr.heap.size → w'.cell? ⟨b, o, none⟩ = wr.cell? ⟨b, o, none⟩) (first | exact keepE ((E.refl _).drew) | exact keepE hEa)
              (first | (go_at_call 16; refine (HT.out _ ((E.refl wr).drew)).1.mono ?_; rintro e wa ⟨A4, n4, c4, A5, n5, c5, rfl, hO4, hO5, hE4⟩; have hEa := ((E.refl wr).drew).trans hE4))
            rename_i hHd
            clear hHd
            have hEa2 := hEa
            have hEka := hEk.trans hEa
            obtain ⟨kB, k0, k1⟩ := HCs.out wa hEka
            have hBk := Nat.lt_of_lt_of_le hB8 hEka.le
            have hCk := Nat.lt_of_lt_of_le hC8 hEka.le
            have R4 := hO4.reads
            have R5 := hO5.reads
            clear hO4 hO5 hE4 hEa
            go_upto_region 10 with fail
            go_region_held3 (fun w' => wa.heap.size ≤ w'.heap.size ∧ ∀ b o, b < wa.heap.size → w'.cell? ⟨b, o, none⟩ = wa.cell? ⟨b, o, none⟩) (first | exact keepE ((E.refl _).drew) | exact keepE hEa)
              (first | (go_at_call 17; refine (HT.out _ (hEa2.drew)).2.mono ?_; rintro e wb ⟨A6, n6, c6, A7, n7, c7, rfl, hO6, hO7, hE6⟩; have hEa := ((E.refl wa).drew).trans hE6))
            rename_i hHd
            clear hHd
            have R6 := hO6.reads
            have R7 := hO7.reads
            have hEkb := hEka.trans hEa
            have HS1 := Lib.hid (same_self A4 A6 n4 c4 n6 c6 r1 wb (R4.e hEa) R6)
            have HS2 := Lib.hid (fun W (hW : E wb W) => same_self A5 A7 n5 c5 n7 c7 r2 W ((R5.e hEa).e hW) (R7.e hW))
            clear R4 R5 R6 R7 hO6 hO7 hE6 hEa hEa2 hEka
            go_wp2_with fail
            refine HS1.out.mono ?_
            rintro e wc ⟨rfl, hEc⟩
            go_wp2_with fail
            refine (HS2.out _ hEc).mono ?_
            rintro e wd ⟨rfl, hEd⟩
            have hEf := hEkb.trans (hEc.trans hEd)
            go_wp2_with fail
            go_roundw
            case rel => exact ⟨2 + 1, by omega, by go_num, hEf⟩
            case measure => simp [intOf]
          · obtain ⟨r, hr⟩ := take_both qi a true
            obtain ⟨r1, r2, r3⟩ := r
            have HT := Lib.hid (fun W (hW : E wr W) => hr Ai ni ci W (HL.out.e hW))
            clear hr
            go_upto_region 9 with fail
            go_region_held3 (fun w' => wr.heap.size ≤ w'.heap.size ∧ ∀ b o, b < wr.heap.size → w'.cell? ⟨b, o, none⟩ = wr.cell? ⟨b, o, none⟩) (first | exact keepE ((E.refl _).drew) | exact keepE hEa)
              (first | (go_at_call 16; refine (HT.out _ ((E.refl wr).drew)).1.mono ?_; rintro e wa ⟨A4, n4, c4, A5, n5, c5, rfl, hO4, hO5, hE4⟩; have hEa := ((E.refl wr).drew).trans hE4))
            rename_i hHd
            clear hHd
            have hEa2 := hEa
            have hEka := hEk.trans hEa
            obtain ⟨kB, k0, k1⟩ := HCs.out wa hEka
            have hBk := Nat.lt_of_lt_of_le hB8 hEka.le
            have hCk := Nat.lt_of_lt_of_le hC8 hEka.le
            have R4 := hO4.reads
            have R5 := hO5.reads
            clear hO4 hO5 hE4 hEa
            go_upto_region 10 with fail
            go_region_held3 (fun w' => wa.heap.size ≤ w'.heap.size ∧ ∀ b o, b < wa.heap.size → w'.cell? ⟨b, o, none⟩ = wa.cell? ⟨b, o, none⟩) (first | exact keepE ((E.refl _).drew) | exact keepE hEa)
              (first | (go_at_call 17; refine (HT.out _ (hEa2.drew)).2.mono ?_; rintro e wb ⟨A6, n6, c6, A7, n7, c7, rfl, hO6, hO7, hE6⟩; have hEa := ((E.refl wa).drew).trans hE6))
            rename_i hHd
            clear hHd
            have R6 := hO6.reads
            have R7 := hO7.reads
            have hEkb := hEka.trans hEa
            have HS1 := Lib.hid (same_self A4 A6 n4 c4 n6 c6 r1 wb (R4.e hEa) R6)
            have HS2 := Lib.hid (fun W (hW : E wb W) => same_self A5 A7 n5 c5 n7 c7 r2 W ((R5.e hEa).e hW) (R7.e hW))
            clear R4 R5 R6 R7 hO6 hO7 hE6 hEa hEa2 hEka
            go_wp2_with fail
            refine HS1.out.mono ?_
            rintro e wc ⟨rfl, hEc⟩
            go_wp2_with fail
            refine (HS2.out _ hEc).mono ?_
            rintro e wd ⟨rfl, hEd⟩
            have hEf := hEkb.trans (hEc.trans hEd)
            go_wp2_with fail
            go_roundw
            case rel => exact ⟨3 + 1, by omega, by go_num, hEf⟩
            case measure => simp [intOf]
        · have hkI : ¬ (k : Int) < 4 := by omega
          go_wp2_with fail
          go_roundw
          case rel => exact ⟨i + 1, by omega, by go_num, HE8.out.trans hEk⟩
          case measure => simp [intOf]; omega
    · go_wp2_with fail
      refine (lives14_c _).mono ?_
      rintro e w9 ⟨rfl, hE9⟩
      go_wp2_with fail
      go_ret
      exact ⟨rfl, HE3.out.trans (hE.trans hE9)⟩
end Go.Proofs.Ytgbamgijpgjmgaa
