/- Lemmas of the claim, joined: LawSe. No condition. -/
import Derived.Test.YtgbamgijpgjmgaaBL
import Derived.Test.YtgbamgijpgjmgaaBM
/- LotsSets. -/
namespace Go.Proofs.Ytgbamgijpgjmgaa
open Go.RowKit Go.Shelf

theorem sets_mul {n k : Nat} (h1 : n ≤ 12) (h2 : k ≤ 12) : n * (k + 1) ≤ 100000 := Nat.le_trans (Nat.mul_le_mul h1 (show k + 1 ≤ 13 by omega)) (by omega)
set_option maxHeartbeats 16000000 in
set_option maxRecDepth 100000 in
theorem lotsSets_w (A : Option Addr) (n c : Nat) (raw : List Lt) (A' : Option Addr) (n' c' : Nat) (l : List Int) (A'' : Option Addr) (n'' c'' : Nat) (m : List Int) (w : World) (h : LotsAt w A n c raw) (h' : Nums .i64 w A' n' c' l) (h'' : Nums .i64 w A'' n'' c'' m) :
    Calls Try.prog 9 #[.slice A n c, .slice A' n' c', .slice A'' n'' c''] w fun e w' => e = .returned (.bool true) ∧ E w w' := by
  have HF := Lib.hid (few_c A n c raw w h)
  have HG1 := Lib.hid (fun W (hE : E w W) => lots14_c 0 A' n' c' l W (h'.e hE) (by omega))
  have HG2 := Lib.hid (fun W (hE : E w W) => lots14_c 0 A'' n'' c'' m W (h''.e hE) (by omega))
  clear h h' h''
  go_enter Try.func9, Try.ntmps9
  go_wp2_with fail
  refine HF.out.mono ?_
  rintro e w1 ⟨A1, n1, c1, rfl, hO1, hE1⟩
  go_wp2_with fail
  refine (HG1.out _ hE1).mono ?_
  rintro e w2 ⟨q, hlq, hgq, A2, n2, c2, rfl, hO2, hE2⟩
  have hE02 := hE1.trans hE2
  go_wp2_with fail
  refine (HG2.out _ hE02).mono ?_
  rintro e w3 ⟨q5, hlq5, hgq5, A3, n3, c3, rfl, hO3, hE3⟩
  have hRow := rowL3 (hO1.reads.e (hE2.trans hE3)) (hO2.reads.e hE3) hO3.reads (few_len raw) (by omega) (by omega)
  have hE4 := (hE02.trans hE3).alloc (.cells #[.slice A1 n1 c1, .slice A2 n2 c2, .slice A3 n3 c3] 22)
  obtain ⟨w4, hw4⟩ : ∃ w4, w3.alloc (.cells #[.slice A1 n1 c1, .slice A2 n2 c2, .slice A3 n3 c3] 22) = w4 := ⟨_, rfl⟩
  have hB4 : w3.heap.size < w4.heap.size := by rw [← hw4, World.size_alloc]; omega
  rw [hw4] at hRow hE4
  have HW4 := Lib.hid hw4
  have HRow := Lib.hid hRow
  have HE4 := Lib.hid hE4
  clear hw4 hRow hE4 hO1 hO2 hO3 hE1 hE2 hE3 hE02 hgq hlq hgq5 hlq5 HF HG1 HG2
  go_upto_region 2 with fail
  rw [HW4.out]
  clear HW4
  go_wp2_with fail
  go_loopw [8] (fun ti wr => ∃ i : Nat, i ≤ 3 ∧ ti = .int .i64 i ∧ E w4 wr) (fun ti _ => 3 - (intOf ti).toNat)
  case atStart => exact ⟨0, by omega, rfl, E.refl _⟩
  case round =>
    obtain ⟨i, hi, rfl, hE⟩ := hrel
    by_cases hlt : i < 3
    · have hiI : (i : Int) < 3 := by omega
      have hi0 : (0 : Int) ≤ (i : Int) := by omega
      obtain ⟨Ai, ni, ci, qi, cB, hLi, hli⟩ := HRow.out.e hB4 hE i hlt
      have hBr := Nat.lt_of_lt_of_le hB4 hE.le
      have HLi := Lib.hid hLi
      have HNi := Lib.hid (show ni ≤ 12 by have := hLi.len; omega)
      have HS1 := Lib.hid (fun W (hW : E wr W) => lSet_c Ai ni ci qi W (hLi.e hW))
      have HS2 := Lib.hid (fun W (hW : E wr W) => refSet_c Ai ni ci qi W (hLi.e hW))
      have HCs := Lib.hid (fun W (hW : E wr W) => (hW.cell (p := ⟨w3.heap.size, i, none⟩) hBr).trans cB)
      have HEr := Lib.hid hE
      have hEa := (E.refl wr).drew
      clear hLi hE
      obtain ⟨w7, hw7⟩ : ∃ w7, w7 = wr := ⟨_, rfl⟩
      subst hw7
      go_upto_region 5 with fail
      go_cut [32] (fun t32 wx => t32 = .bool false ∧ E w7 wx)
      case first =>
        go_region_held3 (fun w' => w7.heap.size ≤ w'.heap.size ∧ ∀ b o, b < w7.heap.size → w'.cell? ⟨b, o, none⟩ = w7.cell? ⟨b, o, none⟩) (exact keepE hEa)
          (first
            | (go_at_call 30; refine (HS1.out _ hEa).mono ?_; rintro e wn ⟨A6, n6, c6, rfl, hO6, hEn⟩; replace hEa := hEa.trans hEn; have R6 := hO6.reads; try (replace R7 := R7.e hEn))
            | (go_at_call 35; refine (HS2.out _ hEa).mono ?_; rintro e wn ⟨A7, n7, c7, rfl, hO7, hEn⟩; replace hEa := hEa.trans hEn; have R7 := hO7.reads; try (replace R6 := R6.e hEn))
            | (go_at_call 18; refine (same_self _ _ _ _ _ _ _ _ R6 R7).mono ?_; rintro e wn ⟨rfl, hEn⟩; replace hEa := hEa.trans hEn))
        all_goals (
          go_wp2_with fail
          go_meet
          exact ⟨rfl, hEa⟩)
      case rest =>
        obtain ⟨rfl, hE7⟩ := hcut
        generalize wc = w8 at *
        clear hEa HS1 HS2
        go_wp2_with fail
        go_loopw [9] (fun tk wr => ∃ k : Nat, k ≤ 3 ∧ tk = .int .i64 k ∧ E w7 wr) (fun tk _ => 3 - (intOf tk).toNat)
        case atStart => exact ⟨0, by omega, rfl, hE7⟩
        case round =>
          clear hE7
          obtain ⟨k, hk, rfl, hE⟩ := hrel
          by_cases hltk : k < 3
          · have hkI : (k : Int) < 3 := by omega
            have hk0 : (0 : Int) ≤ (k : Int) := by omega
            clear cB
            have cB := HCs.out wr hE
            have hBk := Nat.lt_of_lt_of_le hBr hE.le
            obtain ⟨Ak, nk, ck, qk, cK, hLk, hlk⟩ := HRow.out.e hB4 (HEr.out.trans hE) k hltk
            have hLi := HLi.out.e hE
            have hni := HNi.out
            have hnk : nk ≤ 12 := by have := hLk.len; omega
            have HU1 := Lib.hid (fun W (hW : E wr W) => lUnion_c Ai ni ci qi Ak nk ck qk W (hLi.e hW) (hLk.e hW))
            have HU2 := Lib.hid (fun W (hW : E wr W) => refUnion_c Ai ni ci qi Ak nk ck qk W (hLi.e hW) (hLk.e hW))
            have HM1 := Lib.hid (fun W (hW : E wr W) => lMinus_c Ai ni ci qi Ak nk ck qk W (hLi.e hW) (hLk.e hW) (by omega) (by omega))
            have HM2 := Lib.hid (fun W (hW : E wr W) => refMinus_c Ai ni ci qi Ak nk ck qk W (hLi.e hW) (hLk.e hW) (sets_mul hni hnk))
            have HT1 := Lib.hid (fun W (hW : E wr W) => lMeet_c Ai ni ci qi Ak nk ck qk W (hLi.e hW) (hLk.e hW) (by omega) (by omega))
            have HT2 := Lib.hid (fun W (hW : E wr W) => refMeet_c Ai ni ci qi Ak nk ck qk W (hLi.e hW) (hLk.e hW) hni hnk)
            have HW1 := Lib.hid (fun W (hW : E wr W) => lWithin_c Ai ni ci qi Ak nk ck qk W (hLi.e hW) (hLk.e hW) (by omega) (by omega))
            have HW2 := Lib.hid (fun W (hW : E wr W) => refWithin_c Ai ni ci qi Ak nk ck qk W (hLi.e hW) (hLk.e hW) (sets_mul hni hnk))
            have HO1 := Lib.hid (fun W (hW : E wr W) => lWithout_c Ai ni ci qi Ak nk ck qk W (hLi.e hW) (hLk.e hW) (by omega) (by omega))
            have HO2 := Lib.hid (fun W (hW : E wr W) => refWithout_c Ai ni ci qi Ak nk ck qk W (hLi.e hW) (hLk.e hW) (sets_mul hni hnk))
            have HCK := Lib.hid (fun W (hW : E wr W) => And.intro ((hW.cell (p := ⟨w3.heap.size, i, none⟩) hBk).trans cB) ((hW.cell (p := ⟨w3.heap.size, k, none⟩) hBk).trans cK))
            generalize lwithin qi qk = wi at *
            have HEk := Lib.hid hE
            have hEa := (E.refl wr).drew
            clear hLi hLk hni hnk hE
            obtain ⟨w9, hw9⟩ : ∃ w9, w9 = wr := ⟨_, rfl⟩
            subst hw9
            go_upto_region 10 with fail
            go_cut [100] (fun t100 wx => t100 = .bool false ∧ E w9 wx)
            case first =>
              go_region_held3 (fun w' => w9.heap.size ≤ w'.heap.size ∧ ∀ b o, b < w9.heap.size → w'.cell? ⟨b, o, none⟩ = w9.cell? ⟨b, o, none⟩) (exact keepE hEa)
                (first
                  | (go_at_call 31; refine (HU1.out _ hEa).mono ?_; rintro e wn ⟨A6, n6, c6, rfl, hO6, hEn⟩; replace hEa := hEa.trans hEn; have R6 := hO6.reads; try (replace R7 := R7.e hEn))
                  | (go_at_call 36; refine (HU2.out _ hEa).mono ?_; rintro e wn ⟨A7, n7, c7, rfl, hO7, hEn⟩; replace hEa := hEa.trans hEn; have R7 := hO7.reads; try (replace R6 := R6.e hEn))
                  | (go_at_call 32; refine (HM1.out _ hEa).mono ?_; rintro e wn ⟨A6, n6, c6, rfl, hO6, hEn⟩; replace hEa := hEa.trans hEn; have R6 := hO6.reads; try (replace R7 := R7.e hEn))
                  | (go_at_call 37; refine (HM2.out _ hEa).mono ?_; rintro e wn ⟨A7, n7, c7, rfl, hO7, hEn⟩; replace hEa := hEa.trans hEn; have R7 := hO7.reads; try (replace R6 := R6.e hEn))
                  | (go_at_call 27; refine (HT1.out _ hEa).mono ?_; rintro e wn ⟨A6, n6, c6, rfl, hO6, hEn⟩; replace hEa := hEa.trans hEn; have R6 := hO6.reads; try (replace R7 := R7.e hEn))
                  | (go_at_call 38; refine (HT2.out _ hEa).mono ?_; rintro e wn ⟨A7, n7, c7, rfl, hO7, hEn⟩; replace hEa := hEa.trans hEn; have R7 := hO7.reads; try (replace R6 := R6.e hEn))
                  | (go_at_call 18; refine (same_self _ _ _ _ _ _ _ _ R6 R7).mono ?_; rintro e wn ⟨rfl, hEn⟩; replace hEa := hEa.trans hEn; clear R6 R7))
              all_goals (
                go_wp2_with fail
                go_meet
                exact ⟨rfl, hEa⟩)
            case rest =>
              obtain ⟨rfl, hE9⟩ := hcut
              generalize wc = w10 at *
              have HE9 := Lib.hid hE9
              clear hEa cB cK
              obtain ⟨cB, cK⟩ := HCK.out w10 hE9
              have hB9 := Nat.lt_of_lt_of_le hBk hE9.le
              have hEa := (E.refl w10).drew
              clear hE9
              go_wp2_with fail
              go_cut [141] (fun t141 wx => t141 = .bool false ∧ E w10 wx)
              case first =>
                go_region_held3 (fun w' => w10.heap.size ≤ w'.heap.size ∧ ∀ b o, b < w10.heap.size → w'.cell? ⟨b, o, none⟩ = w10.cell? ⟨b, o, none⟩) (exact keepE hEa)
                  (first
                    | (go_at_call 34; refine (HW1.out _ (HE9.out.trans hEa)).mono ?_; rintro e wn ⟨rfl, hEn⟩; replace hEa := hEa.trans hEn)
                    | (go_at_call 39; refine (HW2.out _ (HE9.out.trans hEa)).mono ?_; rintro e wn ⟨rfl, hEn⟩; replace hEa := hEa.trans hEn)
                    | (go_at_call 33; refine (HO1.out _ (HE9.out.trans hEa)).mono ?_; rintro e wn ⟨A6, n6, c6, rfl, hO6, hEn⟩; replace hEa := hEa.trans hEn; have R6 := hO6.reads; try (replace R7 := R7.e hEn))
                    | (go_at_call 40; refine (HO2.out _ (HE9.out.trans hEa)).mono ?_; rintro e wn ⟨A7, n7, c7, rfl, hO7, hEn⟩; replace hEa := hEa.trans hEn; have R7 := hO7.reads; try (replace R6 := R6.e hEn))
                    | (go_at_call 18; refine (same_self _ _ _ _ _ _ _ _ R6 R7).mono ?_; rintro e wn ⟨rfl, hEn⟩; replace hEa := hEa.trans hEn; clear R6 R7))
                all_goals (
                  go_wp2_with fail
                  go_meet
                  exact ⟨rfl, hEa⟩)
              case rest =>
                obtain ⟨rfl, hE10⟩ := hcut
                have HEl := Lib.hid (HEk.out.trans (HE9.out.trans hE10))
                clear hEa hE10
                go_wp2_with fail
                go_roundw
                case rel => exact ⟨k + 1, by omega, by go_num, HEl.out⟩
                case measure => simp [intOf]; omega
          · go_wp2_with fail
            go_roundw
            case rel => exact ⟨i + 1, by omega, by go_num, HEr.out.trans hE⟩
            case measure => simp [intOf]; omega
    · go_wp2_with fail
      refine (lives14_c _).mono ?_
      rintro e w9 ⟨rfl, hE9⟩
      go_wp2_with fail
      go_ret
      exact ⟨rfl, HE4.out.trans (hE.trans hE9)⟩
end Go.Proofs.Ytgbamgijpgjmgaa
