/- The walk of BagLists. -/
import Derived.Test.YtbpfdogjjoceaaaX
namespace Go.Proofs.Ytbpfdogjjoceaaa
open Go.RowKit

theorem ofF_amF : ∀ (suf pr : List Int), (∀ x ∈ suf, 0 ≤ x ∧ x ≤ 1099511627776) → ofF (pr ++ List.replicate suf.length 0) (amF pr.length suf) = (pr ++ suf, 0)
  | [], pr, _ => by simp [amF, ofF]
  | x :: s, pr, h => by
    have hx := h x List.mem_cons_self
    have ih := ofF_amF s (pr ++ [x]) (fun y hy => h y (List.mem_cons_of_mem _ hy))
    simp only [List.length_append, List.length_cons, List.length_nil, Nat.zero_add, List.append_assoc, List.cons_append, List.nil_append] at ih
    by_cases h0 : 0 < x
    · have e : amF pr.length (x :: s) = ((pr.length : Int), x) :: amF (pr.length + 1) s := by simp [amF, h0]
      have g : (pr ++ List.replicate (s.length + 1) 0).getD pr.length 0 = 0 := by
        rw [List.getD_eq_getElem?_getD, List.getElem?_append_right (Nat.le_refl _), Nat.sub_self]; simp [List.replicate_succ]
      have st : (pr ++ List.replicate (s.length + 1) 0).set pr.length (0 + x) = pr ++ x :: List.replicate s.length 0 := by
        rw [List.set_append_right _ _ (Nat.le_refl _), Nat.sub_self]; simp [List.replicate_succ]
      rw [e, List.length_cons]
      simp only [ofF, Int.toNat_natCast, g]
      rw [if_neg (by omega), st]
      exact ih
    · have hz : x = 0 := by omega
      subst hz
      have e : amF pr.length (0 :: s) = amF (pr.length + 1) s := by simp [amF]
      rw [e, List.length_cons, List.replicate_succ]
      exact ih
theorem validF_amF (N : Int) : ∀ (suf : List Int) (k : Nat) (last : Int), (∀ x ∈ suf, 0 ≤ x ∧ x ≤ 1099511627776) → last < k → ((k + suf.length : Nat) : Int) ≤ N → validF N last (amF k suf) = true
  | [], _, _, _, _, _ => rfl
  | x :: s, k, last, h, hl, hN => by
    have hx := h x List.mem_cons_self
    simp only [List.length_cons] at hN
    by_cases h0 : 0 < x
    · have e : amF k (x :: s) = ((k : Int), x) :: amF (k + 1) s := by simp [amF, h0]
      rw [e]
      show (properB N k x && (decide (last < k) && validF N k (amF (k + 1) s))) = true
      rw [validF_amF N s (k + 1) k (fun y hy => h y (List.mem_cons_of_mem _ hy)) (by omega) (by omega)]
      simp [properB]; omega
    · have e : amF k (x :: s) = amF (k + 1) s := by simp [amF, h0]
      rw [e]
      exact validF_amF N s (k + 1) last (fun y hy => h y (List.mem_cons_of_mem _ hy)) (by omega) (by omega)
theorem properF_amF {N : Int} {l : List (Int × Int)} {last : Int} (h : validF N last l = true) : allProper N l = true := by
  rw [validF_inc] at h; simp at h; exact h.1
theorem lists_facts {l : List Int} (h : isBagB l = true) : ofS l.length (amountsS l) = (l, 0) ∧ validS l.length (amountsS l) = true := by
  obtain ⟨h1, h2⟩ := isBag_iff.1 h
  have ha : amountsS l = amF 0 l := by simp [amountsS, h]
  have hv := validF_amF l.length l 0 (-1) h2 (by omega) (by omega)
  rw [ha]
  refine ⟨?_, by rw [validS, hv]; simp; omega⟩
  rw [ofS, if_pos ⟨by omega, by omega, properF_amF hv⟩]
  have := ofF_amF l [] h2
  simpa using this

theorem sameP_t (A1 A2 : Option Addr) (n1 c1 n2 c2 : Nat) (l : List (Int × Int)) (w : World) (h1 : Pairs w A1 n1 c1 l) (h2 : Pairs w A2 n2 c2 l) :
    Calls Try.prog 29 #[.slice A1 n1 c1, .slice A2 n2 c2] w (RetB w true) :=
  (sameP_c A1 A2 n1 c1 n2 c2 l l w h1 h2).mono fun _ _ h => ⟨by rw [h.1]; simp [samePB], E.of_q h.2⟩
theorem same_te (A1 A2 : Option Addr) (n1 c1 n2 c2 : Nat) (l : List Int) (w : World) (h1 : Nums .i64 w A1 n1 c1 l) (h2 : Nums .i64 w A2 n2 c2 l) :
    Calls Try.prog 16 #[.slice A1 n1 c1, .slice A2 n2 c2] w (RetB w true) :=
  (same_t A1 A2 n1 c1 n2 c2 l w h1 h2).mono fun _ _ h => ⟨h.1, E.of_q h.2⟩

set_option maxHeartbeats 4000000 in
set_option maxRecDepth 100000 in
theorem bagLists_w (N p v : Int) (A : Option Addr) (n c : Nat) (l : List Int) (w : World) (h : Nums .i64 w A n c l) (hN1 : -9223372036854775808 ≤ N) (hN2 : N ≤ 9223372036854775807) (hp1 : -9223372036854775808 ≤ p) (hp2 : p ≤ 9223372036854775807) (hv : (Lit.int .i64 v).wf = true) :
    Calls Try.prog 6 #[.int .i64 N, .slice A n c, .int .i64 p, .int .i64 v] w (RetB w true) := by
  go_enter Try.func6, Try.ntmps6
  go_wp2_with fail
  refine (bags_c N p v _ _ _ _ _ h hN1 hN2 hp1 hp2 hv).mono ?_
  rintro e w2 ⟨A1, n1, c1, rfl, hM2, hE2⟩
  have hn1 : n1 = 3 := by rw [← hM2.len]; rfl
  subst hn1
  go_wp2
  go_loopw [10] (fun t wr => ∃ i : Nat, i ≤ 3 ∧ t = .int .i64 i ∧ E w2 wr) (fun t _ => 3 - (intOf t).toNat)
  case atStart => exact ⟨0, by omega, rfl, E.refl _⟩
  case round =>
    obtain ⟨i, hi, rfl, hEr⟩ := hrel
    by_cases hlt : (i : Int) < 3
    · obtain ⟨bm, om, Ai, ni, ci, li, rfl, hbm, hli, hci, hNi⟩ := (hM2.e hEr).get (i := i) (by omega)
      have mi := hNi.n63
      have HLN := Lib.hid hNi.len
      clear hli
      go_wp2_with fail
      refine (amounts_c _ _ _ _ _ hNi).mono ?_
      rintro e w3 ⟨A3, n3, c3, rfl, hP3, hE3⟩
      replace hci := (hE3.cell (p := ⟨bm, _, none⟩) hbm).trans hci
      replace hbm := Nat.lt_of_lt_of_le hbm hE3.le
      replace hNi := hNi.e hE3
      have hP := hP3.reads
      replace hEr := hEr.trans hE3
      clear hP3 hE3
      go_wp2_with fail
      refine (refAmounts_c _ _ _ _ _ hNi).mono ?_
      rintro e w4 ⟨A4, n4, c4, rfl, hP4, hE4⟩
      replace hci := (hE4.cell (p := ⟨bm, _, none⟩) hbm).trans hci
      replace hbm := Nat.lt_of_lt_of_le hbm hE4.le
      replace hNi := hNi.e hE4
      replace hP := hP.e hE4
      replace hEr := hEr.trans hE4
      clear hE4
      go_wp2_with fail
      refine (sameP_t _ _ _ _ _ _ _ _ hP hP4.reads).mono ?_
      rintro e w5 ⟨rfl, hE5⟩
      replace hci := (hE5.cell (p := ⟨bm, _, none⟩) hbm).trans hci
      replace hbm := Nat.lt_of_lt_of_le hbm hE5.le
      replace hNi := hNi.e hE5
      replace hP := hP.e hE5
      replace hEr := hEr.trans hE5
      clear hE5 hP4
      cases hbag : isBagB li
      · go_wp2_with (go_at_call 31; refine (refIs_c _ _ _ _ _ hNi).mono ?_; rintro e w' ⟨rfl, rfl⟩)
        go_roundw
        case rel => exact ⟨i + 1, by omega, by go_num, hEr⟩
        case measure => simp [intOf]; omega
      · obtain ⟨f1, f2⟩ := lists_facts hbag
        rw [HLN.out] at f1 f2
        have F1 := Lib.hid f1
        clear f1
        go_wp2_with (go_at_call 31; refine (refIs_c _ _ _ _ _ hNi).mono ?_; rintro e w' ⟨rfl, rfl⟩)
        refine (of_c _ _ _ _ _ _ hP).mono ?_
        rintro e w6 ⟨A6, n6, c6, rfl, hO6, hE6⟩
        rw [F1.out] at hO6 ⊢
        replace hci := (hE6.cell (p := ⟨bm, _, none⟩) hbm).trans hci
        replace hbm := Nat.lt_of_lt_of_le hbm hE6.le
        replace hNi := hNi.e hE6
        replace hP := hP.e hE6
        replace hEr := hEr.trans hE6
        clear hE6
        go_wp2_with fail
        refine (same_te _ _ _ _ _ _ _ _ hO6.reads hNi).mono ?_
        rintro e w7 ⟨rfl, hE7⟩
        replace hci := (hE7.cell (p := ⟨bm, _, none⟩) hbm).trans hci
        replace hP := hP.e hE7
        replace hEr := hEr.trans hE7
        clear hE7 hO6
        go_wp2_with fail
        refine (valid_c _ _ _ _ _ _ hP).mono ?_
        rintro e w8 ⟨rfl, hE8⟩
        go_wp2
        go_roundw
        case rel => exact ⟨i + 1, by omega, by go_num, hEr.trans hE8⟩
        case measure => simp [intOf]; omega
    · go_wp2_with (go_at_call 19; refine (lives_c _).mono ?_; rintro e w' ⟨rfl, hEl⟩)
      go_ret
      exact ⟨rfl, (hE2.trans hEr).trans hEl⟩
end Go.Proofs.Ytbpfdogjjoceaaa
