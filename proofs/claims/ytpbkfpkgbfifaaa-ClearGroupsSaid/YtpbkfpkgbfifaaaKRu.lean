/- The model's Useless and Reduce. -/
import Derived.Test.YtpbkfpkgbfifaaaKLv
import Derived.Test.YtpbkfpkgbfifaaaKU
namespace Go.Proofs.Ytpbkfpkgbfifaaa
open Go.RowKit

set_option maxHeartbeats 4000000 in
set_option maxRecDepth 100000 in
theorem refUseless_c (A : Option Addr) (n c : Nat) (l : List Bd) (i j : Nat) (w : World) (h : BidsAt w A n c l) (hi : i < n) (hj : j < n) :
    Calls Try.prog 56 #[.slice A n c, .int .i64 i, .int .i64 j] w (RetK w (j != i && useB l j i)) := by
  have hm := h.n63
  obtain ⟨bb, o, x, A1, n1, c1, rfl, hb, hx, hv1, hv2, hN, hcs⟩ := h.item hi
  obtain ⟨b', o', y, A2, n2, c2, e3, hb', hy, hv1', hv2', hN', hcs'⟩ := h.item hj
  have hm2 := hN'.n63
  injection e3 with e3
  injection e3 with e3 e4
  subst e3 e4
  have hgx : l.getD i bd0 = x := by rw [List.getD_eq_getElem?_getD, hx]; rfl
  have hgy : l.getD j bd0 = y := by rw [List.getD_eq_getElem?_getD, hy]; rfl
  have HU := Lib.hid (useB_eq l j i hgy hgx)
  obtain ⟨p1, p2, p3⟩ := hcs w (E.refl _)
  obtain ⟨q1, q2, q3⟩ := hcs' w (E.refl _)
  obtain ⟨res, hres⟩ : ∃ res, (j != i && useB l j i) = res := ⟨_, rfl⟩
  have HR := Lib.hid hres
  rw [hres]
  have hiI : (i : Int) < (n : Int) := by omega
  have hjI : (j : Int) < (n : Int) := by omega
  obtain ⟨xb, xp, xl⟩ := x
  obtain ⟨yb, yp, yl⟩ := y
  simp only at *
  have HCS := Lib.hid hcs
  have HCS' := Lib.hid hcs'
  clear hres hgx hgy hx hy hcs hcs' h
  by_cases e : i = j
  · subst e
    have HF := Lib.hid (show res = false by rw [← HR.out]; simp)
    go_enter Try.func56, Try.ntmps56
    go_wp2_with fail
    have d0 : ((i : Int) == (i : Int)) = true := by simp
    go_quiet (fail)
    go_wp2_with fail
    go_ret
    exact ⟨ret_bool HF.out.symm, (E.refl w).drewN _⟩
  have d0 : ((i : Int) == (j : Int)) = false := by simp; omega
  have HR2 := Lib.hid (show res = useB l j i by rw [← HR.out]; have h2 : j ≠ i := (fun e' => e e'.symm); simp [h2])
  by_cases eb : xb = yb
  · subst eb
    have d1 : (xb != xb) = false := by simp
    have HD1 := Lib.hid d1
    have HD0 := Lib.hid d0
    clear d0 d1
    go_enter Try.func56, Try.ntmps56
    go_wp2_with fail
    have d0 := HD0.out
    have d1 := HD1.out
    go_quiet (fail)
    go_wp2_with fail
    obtain ⟨al, hal⟩ : ∃ al, (yl.all fun t => xl.contains t) = al := ⟨_, rfl⟩
    have HAL := Lib.hid hal
    clear d0 d1 p1 p2 p3 q1 q2 q3
    go_loopw [7] (fun ti wr => ∃ k : Nat, k ≤ n2 ∧ ti = .int .i64 k ∧ E w wr ∧ Hid ((yl.drop k).all (fun t => xl.contains t) = al)) (fun ti _ => n2 - (intOf ti).toNat)
    case atStart => exact ⟨0, Nat.zero_le _, rfl, (E.refl w).drewN _, hal⟩
    case round =>
      obtain ⟨k, hk, rfl, hE, han⟩ := hrel
      clear hal
      obtain ⟨p1, p2, p3⟩ := HCS.out wr hE
      obtain ⟨q1, q2, q3⟩ := HCS'.out wr hE
      by_cases hlt : (k : Int) < (n2 : Int)
      · obtain ⟨b2, o2, t, rfl, hbb, ht, hwt, hct⟩ := (hN'.e hE).get (i := k) (by omega)
        have HD := Lib.hid (drop_at ht)
        have HH := Lib.hid (fun W (hW : E wr W) => has1_c A1 n1 c1 xl t W ((hN.e hE).e hW))
        clear ht hwt
        cases hc : xl.contains t
        · rw [hc] at HH
          have HF := Lib.hid (show res = false by
            have : al = false := by rw [← han.out, HD.out, List.all_cons, hc, Bool.false_and]
            rw [HR2.out, HU.out, HAL.out, this, Bool.and_false])
          clear han hc
          go_wp2_with fail
          go_still_tail 13, (by kernel_rfl)
          go_wp2_with fail
          refine (HH.out _ ((E.refl wr).drew)).mono ?_
          rintro e w1 ⟨rfl, hE1⟩
          go_wp2_with fail
          go_ret
          exact ⟨ret_bool HF.out.symm, (hE.trans ((E.refl wr).drew)).trans hE1⟩
        · rw [hc] at HH
          have HN := Lib.hid (show (yl.drop (k + 1)).all (fun t => xl.contains t) = al by rw [← han.out, HD.out, List.all_cons, hc, Bool.true_and])
          clear han hc
          go_wp2_with fail
          go_still_tail 13, (by kernel_rfl)
          go_wp2_with fail
          refine (HH.out _ ((E.refl wr).drew)).mono ?_
          rintro e w1 ⟨rfl, hE1⟩
          go_wp2_with fail
          go_roundw
          case rel => exact ⟨k + 1, by omega, by go_num, (hE.trans ((E.refl wr).drew)).trans hE1, HN.out⟩
          case measure => simp [intOf]; omega
      · have hat : al = true := by rw [← han.out, drop_end hN'.len (by omega)]; rfl
        have HRR := Lib.hid (show res = (decide (xp < yp) || (yp == xp && decide (j < i))) by
          rw [HR2.out, HU.out, HAL.out, hat]; simp)
        clear han hat
        have hjji : decide ((j : Int) < (i : Int)) = decide (j < i) := by simp
        by_cases c1 : xp < yp
        · have HF := Lib.hid (show res = true by rw [HRR.out]; simp [c1])
          go_wp2_with fail
          have d2 : decide (xp < yp) = true := by simpa using c1
          go_quiet (fail)
          go_wp2_with fail
          go_ret
          exact ⟨ret_bool HF.out.symm, hE.drewN _⟩
        · by_cases c2 : yp = xp
          · subst c2
            by_cases c3 : (j : Int) < (i : Int)
            · have HF := Lib.hid (show res = true by rw [HRR.out]; have h2 : j < i := (by omega); simp [h2])
              go_wp2_with fail
              have d2 : decide (yp < yp) = false := by simp
              have d3 : (yp == yp) = true := by simp
              have d4 : decide ((j : Int) < (i : Int)) = true := by simp; omega
              go_quiet (fail)
              go_wp2_with fail
              go_ret
              exact ⟨ret_bool HF.out.symm, hE.drewN _⟩
            · have HF := Lib.hid (show res = false by rw [HRR.out]; have h2 : ¬ j < i := (by omega); simp [h2])
              go_wp2_with fail
              have d2 : decide (yp < yp) = false := by simp
              have d3 : (yp == yp) = true := by simp
              have d4 : decide ((j : Int) < (i : Int)) = false := by simp; omega
              go_quiet (fail)
              go_wp2_with fail
              go_ret
              exact ⟨ret_bool (by rw [HF.out]; simp; omega), hE.drewN _⟩
          · have HF := Lib.hid (show res = false by rw [HRR.out]; simp [c1, c2])
            go_wp2_with fail
            have d2 : decide (xp < yp) = false := by simp; omega
            have d3 : (yp == xp) = false := by simpa using c2
            go_quiet (fail)
            go_wp2_with fail
            go_ret
            exact ⟨ret_bool HF.out.symm, hE.drewN _⟩
  · have d1 : (xb != yb) = true := by simpa using eb
    have HF := Lib.hid (show res = false by rw [HR2.out, HU.out]; have h2 : ¬ yb = xb := (fun e' => eb e'.symm); simp [h2])
    go_enter Try.func56, Try.ntmps56
    go_wp2_with fail
    go_quiet (fail)
    go_wp2_with fail
    go_ret
    exact ⟨ret_bool HF.out.symm, (E.refl w).drewN _⟩
theorem keep_ref (l : List Bd) (i k : Nat) : ((List.range (k + 1)).any fun j => j != i && useB l j i) = (((List.range k).any fun j => j != i && useB l j i) || (k != i && useB l k i)) := by
  rw [List.range_succ, List.any_append]; simp
set_option maxHeartbeats 4000000 in
set_option maxRecDepth 100000 in
theorem refReduce_c (A : Option Addr) (n c : Nat) (l : List Bd) (w : World) (h : BidsAt w A n c l) (hn : n ≤ 1000) :
    Calls Try.prog 22 #[.slice A n c] w (RetOwn .i64 3 w (ints (redS l))) := by
  have hl := h.len
  go_enter Try.func22, Try.ntmps22
  go_wp2_with fail
  go_loopw [3, 4] (fun tl ti wr => ∃ (i m c' : Nat) (A' : Option Addr), i ≤ n ∧ ti = .int .i64 i ∧ tl = .slice A' m c' ∧ Own .i64 3 wr w.heap.size A' m c' (ints ((List.range i).filter (keepB l))) ∧ E w wr ∧ m ≤ i) (fun _ ti _ => n - (intOf ti).toNat)
  case atStart => exact ⟨0, 0, 0, none, Nat.zero_le _, rfl, rfl, Own.nil _ _ _ _, E.refl _, Nat.le_refl _⟩
  case round =>
    obtain ⟨i, m, c', A', hi, rfl, rfl, hO, hE, hmi⟩ := hrel
    by_cases hil : (i : Int) < (n : Int)
    · go_wp2_with fail
      go_loopw [5, 6] (fun tu tj wr => ∃ (j : Nat) (u : Bool), j ≤ n ∧ tj = .int .i64 j ∧ tu = .bool u ∧ Own .i64 3 wr w.heap.size A' m c' (ints ((List.range i).filter (keepB l))) ∧ E w wr ∧ Hid (u = (List.range j).any fun j => j != i && useB l j i)) (fun _ tj _ => n - (intOf tj).toNat)
      case atStart => exact ⟨0, false, Nat.zero_le _, rfl, rfl, hO, hE, rfl⟩
      case round =>
        clear hO hE
        obtain ⟨j, u, hj, rfl, rfl, hO, hE, hu⟩ := hrel
        by_cases hjl : (j : Int) < (n : Int)
        · have HC := Lib.hid (refUseless_c A n c l i j wr (h.e hE) (by omega) (by omega))
          have HU := Lib.hid (show ((List.range (j + 1)).any fun j => j != i && useB l j i) = (u || (j != i && useB l j i)) by rw [keep_ref, hu.out])
          generalize (j != i && useB l j i) = v at HC HU
          cases u
          · go_wp2_with fail
            refine HC.out.mono ?_
            rintro e w1 ⟨rfl, hE1⟩
            have hO1 := hO.e hE1
            clear HC hO
            go_wp2_with fail
            go_roundw
            case rel => exact ⟨j + 1, v, by omega, by go_num, rfl, hO1, hE.trans hE1, show _ = _ by rw [HU.out]; rfl⟩
            case measure => simp [intOf]; omega
          · go_wp2_with fail
            refine HC.out.mono ?_
            rintro e w1 ⟨rfl, hE1⟩
            have hO1 := hO.e hE1
            clear HC hO
            go_wp2_with fail
            go_roundw
            case rel => exact ⟨j + 1, true, by omega, by go_num, rfl, hO1, hE.trans hE1, show _ = _ by rw [HU.out]; rfl⟩
            case measure => simp [intOf]; omega
        · have hk1 : keepB l i = !u := by rw [keepB, hl, hu.out, show j = n by omega]
          have HST := Lib.hid (keep_step l i)
          clear hu
          cases u
          · have HK := Lib.hid (show (List.range (i + 1)).filter (keepB l) = (List.range i).filter (keepB l) ++ [i] by rw [HST.out, hk1]; rfl)
            clear HST hk1
            go_wp2_with (first | (refine wpList_app1n intTk _ rfl _ _ rfl w.heap.size _ _ _ _ rfl hO (i : Int) rfl (wf_of_i64 (by omega) (by omega)) (by omega) hE.le ?_; intro g' c9 w9 hO9 hG9 hB9 _) | fail)
            exact ⟨⟨i + 1, m + 1, c9, _, by omega, by go_num, rfl, by show Own _ _ _ _ _ _ _ (ints ((List.range (i + 1)).filter (keepB l))); rw [HK.out, ints_app]; exact hO9, hE.up hB9, by omega⟩, by simp [intOf]; omega⟩
          · have HK := Lib.hid (show (List.range (i + 1)).filter (keepB l) = (List.range i).filter (keepB l) by rw [HST.out, hk1]; rfl)
            clear HST hk1
            go_wp2_with fail
            exact ⟨⟨i + 1, m, c', _, by omega, by go_num, rfl, by show Own _ _ _ _ _ _ _ (ints ((List.range (i + 1)).filter (keepB l))); rw [HK.out]; exact hO, hE, by omega⟩, by simp [intOf]; omega⟩
    · have HR := Lib.hid (show redS l = (List.range i).filter (keepB l) by unfold redS; rw [hl, show i = n by omega])
      go_wp2_with fail
      go_ret
      exact ⟨_, _, _, rfl, by rw [HR.out]; exact hO, hE⟩
end Go.Proofs.Ytpbkfpkgbfifaaa
