/- The model's Best, Without and Prices answer as the package's. -/
import Derived.Test.YtkcbdnaampiedaaKBr
namespace Go.Proofs.Ytkcbdnaampiedaa
open Go.RowKit

theorem best_refV {N : Int} {l : List Bd} (h : validS N l = 0) : refBestS l 0 = bestS l := (best_ref (fun i => (pr_of_valid h i).1) (fun x hx => by have := ((validS_ok h).2.1 x hx).1; omega)).symm
theorem without_refV {N : Int} {l : List Bd} (h : validS N l = 0) (wo : Int) : (refBestS l wo).2 = (bestS (l.filter fun x => x.1 != wo)).2 := (without_ref (fun x hx => by have := ((validS_ok h).2.1 x hx).2.1; omega) wo).symm

set_option maxHeartbeats 1000000 in
theorem rBest_c (N : Int) (A : Option Addr) (n c : Nat) (l : List Bd) (w : World) (h : BidsAt w A n c l) (hN1 : -9223372036854775808 ≤ N) (hN2 : N ≤ 9223372036854775807) :
    Calls Try.prog 25 #[.int .i64 N, .slice A n c] w fun e w' => ∃ A' n' c', e = .returned (.tuple #[.slice A' n' c', .int .i64 (bestF N l).2.1, .int .i64 (bestF N l).2.2]) ∧ Nums .i64 w' A' n' c' (ints (bestF N l).1) ∧ E w w' := by
  have HV := Lib.hid (refValid_c N A n c l w h hN1 hN2)
  by_cases hv : validS N l = 0
  · have HB := Lib.hid (fun w1 (hE : E w w1) => refBest28_c A n c l 0 w1 (h.e hE) (by have := (validS_ok hv).1; have := h.len; omega) (pr_of_valid hv))
    rw [best_refV hv] at HB
    rw [bestF, if_pos hv]
    rw [hv] at HV
    clear hv h
    generalize bestS l = bs at *
    go_enter Try.func25, Try.ntmps25
    go_wp2_with fail
    refine HV.out.mono ?_
    rintro e w1 ⟨rfl, hE1⟩
    go_wp2_with fail
    refine (HB.out _ hE1).mono ?_
    rintro e w2 ⟨A', n', c', rfl, hO2, hE2⟩
    go_wp2_with fail
    refine bodyPost_ret (results_tmp3 rfl _ _ _) rfl ?_
    exact ⟨A', n', c', rfl, hO2, hE1.trans hE2⟩
  · rw [bestF, if_neg hv]
    have hne : (validS N l != 0) = true := by simpa using hv
    generalize validS N l = v at *
    clear h
    go_enter Try.func25, Try.ntmps25
    go_wp2_with fail
    refine HV.out.mono ?_
    rintro e w1 ⟨rfl, hE1⟩
    go_wp2_with fail
    refine bodyPost_ret (results_tmp3 rfl _ _ _) rfl ?_
    exact ⟨none, 0, 0, rfl, Nums.nil _ _ _ _ (Nat.zero_le _), hE1⟩

set_option maxHeartbeats 1000000 in
theorem rWithout_c (N : Int) (A : Option Addr) (n c : Nat) (l : List Bd) (bd : Int) (w : World) (h : BidsAt w A n c l) (hN1 : -9223372036854775808 ≤ N) (hN2 : N ≤ 9223372036854775807) :
    Calls Try.prog 27 #[.int .i64 N, .slice A n c, .int .i64 bd] w fun e w' => e = .returned (.tuple #[.int .i64 (withoutF N l bd).1, .int .i64 (withoutF N l bd).2]) ∧ E w w' := by
  have HV := Lib.hid (refValid_c N A n c l w h hN1 hN2)
  by_cases hv : validS N l = 0
  · have HB := Lib.hid (fun w1 (hE : E w w1) => refBest28_c A n c l bd w1 (h.e hE) (by have := (validS_ok hv).1; have := h.len; omega) (pr_of_valid hv))
    rw [without_refV hv bd] at HB
    rw [withoutF, if_pos hv]
    rw [hv] at HV
    clear hv h
    generalize (bestS (l.filter fun x => x.1 != bd)).2 = bs at *
    go_enter Try.func27, Try.ntmps27
    go_wp2_with fail
    refine HV.out.mono ?_
    rintro e w1 ⟨rfl, hE1⟩
    go_wp2_with fail
    refine (HB.out _ hE1).mono ?_
    rintro e w2 ⟨A', n', c', rfl, _, hE2⟩
    go_wp2_with fail
    go_ret2
    exact ⟨rfl, hE1.trans hE2⟩
  · rw [withoutF, if_neg hv]
    have hne : (validS N l != 0) = true := by simpa using hv
    generalize validS N l = v at *
    clear h
    go_enter Try.func27, Try.ntmps27
    go_wp2_with fail
    refine HV.out.mono ?_
    rintro e w1 ⟨rfl, hE1⟩
    go_wp2_with fail
    go_ret2
    exact ⟨rfl, hE1⟩

set_option maxHeartbeats 4000000 in
set_option maxRecDepth 100000 in
theorem rPrices_c (N : Int) (A : Option Addr) (n c : Nat) (l : List Bd) (w : World) (h : BidsAt w A n c l) (hN1 : -9223372036854775808 ≤ N) (hN2 : N ≤ 9223372036854775807) :
    Calls Try.prog 16 #[.int .i64 N, .slice A n c] w (RetOwnErr .i64 3 w (pricesF N l)) := by
  have HV := Lib.hid (refValid_c N A n c l w h hN1 hN2)
  by_cases hv : validS N l = 0
  · obtain ⟨hl10, hpv, _, _⟩ := validS_ok hv
    have hl := h.len
    have hprv := pr_of_valid hv
    have hpp : ∀ x ∈ l, 1 ≤ x.2.1 ∧ x.2.1 ≤ 1099511627776 := fun x hx => (hpv x hx).2
    have hbr := bestS_range hl10 hprv
    have HBR := Lib.hid hbr.2.2
    have HPR := Lib.hid hprv
    have HW := Lib.hid (fun (bd : Int) => bestS_range (filter_valid (f := fun x => x.1 != bd) hl10 hpp).1 (filter_valid (f := fun x => x.1 != bd) hl10 hpp).2)
    have HFIN := Lib.hid (show pricesF N l = (payL l (bestS l).1, 0) by rw [pricesF, if_pos hv])
    have HB := Lib.hid (fun w1 (hE : E w w1) => refBest28_c A n c l 0 w1 (h.e hE) (by omega) hprv)
    rw [best_refV hv] at HB
    have HWO := Lib.hid (fun (bd : Int) w1 (hE : E w w1) => refBest28_c A n c l bd w1 (h.e hE) (by omega) hprv)
    have HWE := Lib.hid (fun bd => without_refV hv bd)
    rw [hv] at HV
    obtain ⟨hb1, hb2, _⟩ := hbr
    obtain ⟨bv, hbv⟩ : ∃ bv, (bestS l).2 = bv := ⟨_, rfl⟩
    rw [hbv] at hb1 hb2 HB
    have HBV := Lib.hid hbv
    clear hv hpv hprv hpp hbv
    go_enter Try.func16, Try.ntmps16
    go_wp2_with fail
    refine HV.out.mono ?_
    rintro e w1 ⟨rfl, hE1⟩
    go_wp2_with fail
    refine (HB.out _ hE1).mono ?_
    rintro e w3 ⟨A3, n3, c3, rfl, hO3, hE3⟩
    go_wp2_with (at_make; refine wpList_mk intTk _ rfl _ _ rfl _ _ _ _ n rfl rfl rfl rfl (by omega) ?_; intro w2 hO2 hE2 hz2)
    have hEw3 := (hE1.trans hE3).trans hE2
    have hw3z := (hE1.trans hE3).le
    obtain ⟨g, hg⟩ : ∃ g, w3.heap.size = g := ⟨_, rfl⟩
    have hrow : ∀ b, 0 < n3 → ob A3 = some b → b ≠ g := fun b h0 hb => by
      obtain ⟨b', o, e, hlt, _⟩ := hO3.at_ h0
      rw [e] at hb
      have : b' = b := by simpa [ob] using hb
      omega
    have hO2' := hO2.rebase hw3z
    rw [hg] at hO2' ⊢
    rw [show List.replicate n (0 : Int) = payL l [] by rw [← hl]; exact payL_nil l] at hO2'
    have HN3 := Lib.hid (show n3 = (bestS l).1.length by rw [← hO3.len, ints_len])
    have hC3 := hO3.e hE2
    have hn3m := hC3.n63
    clear hE1 hE2 hE3 hO2 hO3 HV HB hg hz2
    go_wp2_with fail
    go_loopw [10] (fun ti wr => ∃ k : Nat, k ≤ n3 ∧ ti = .int .i64 k ∧ Own .i64 3 wr w.heap.size (some ⟨g, 0, none⟩) n n (payL l ((bestS l).1.take k)) ∧ Nums .i64 wr A3 n3 c3 (ints (bestS l).1) ∧ E w wr) (fun ti _ => n3 - (intOf ti).toNat)
    case atStart => exact ⟨0, Nat.zero_le _, rfl, by simpa using hO2', hC3, hEw3⟩
    case round =>
      clear hO2' hC3 hEw3
      obtain ⟨k, hk, rfl, hO, hC, hE⟩ := hrel
      by_cases hlt : (k : Int) < (n3 : Int)
      · obtain ⟨b3, o3, y, rfl, hb3, hy, hwy, hcy⟩ := hC.get (i := k) (by omega)
        obtain ⟨ci, hci, rfl⟩ : ∃ ci : Nat, (bestS l).1[k]? = some ci ∧ (ci : Int) = y := by
          rw [ints, List.getElem?_map] at hy
          cases e : (bestS l).1[k]? with
          | none => rw [e] at hy; simp at hy
          | some ci => rw [e] at hy; exact ⟨ci, rfl, by simpa using hy⟩
        have hcn : ci < n := by have := HBR.out ci (List.mem_of_getElem? hci); omega
        obtain ⟨b, o, x, A1, n1, c1, rfl, hb, hx, hv1, hv2, hN, hcs⟩ := h.item hcn
        obtain ⟨hc1, hc2, _⟩ := hcs wr hE
        have hxg : l.getD ci bd0 = x := by rw [List.getD_eq_getElem?_getD, hx]; rfl
        have hpx : pr l ci = x.2.1 := by rw [pr, hxg]
        have hpr := HPR.out ci
        rw [hpx] at hpr
        have hW := HW.out x.1
        obtain ⟨wv, hwv⟩ : ∃ wv, (bestS (l.filter fun z => z.1 != x.1)).2 = wv := ⟨_, rfl⟩
        have HWC := Lib.hid (HWO.out x.1)
        rw [HWE.out x.1] at HWC
        rw [hwv] at hW HWC
        have hpay : payS l ci = wv - bv + x.2.1 := by rw [payS, hxg, hwv, HBV.out, hpx]
        have HSet := Lib.hid (show (payL l ((bestS l).1.take k)).set ci (wv - bv + x.2.1) = payL l ((bestS l).1.take (k + 1)) by
          rw [← hpay, payL_set l _ (by omega), List.take_add_one, hci]; rfl)
        have hcI : (ci : Int) < (n : Int) := by omega
        obtain ⟨xb, xp, xl⟩ := x
        obtain ⟨hW1, hW2, _⟩ := hW
        simp only at *
        have HCS := Lib.hid hcs
        clear hx hxg hpx hpay hwv hcs hN hy hci hwy
        go_wp2_with fail
        refine (HWC.out _ hE).mono ?_
        rintro e w4 ⟨A4, n4, c4, rfl, _, hE4⟩
        have hE05 : E wr w4 := hE4
        have hEw4 := hE.trans hE05
        have hcy4 := (hE05.cell (p := ⟨b3, o3 + k, none⟩) hb3).trans hcy
        have hb34 := Nat.lt_of_lt_of_le hb3 hE05.le
        obtain ⟨_, hc24, _⟩ := HCS.out w4 hEw4
        have hO4 := hO.e hE05
        have hC4 := hC.e hE05
        obtain ⟨xo, hg0, hg1, _, hwo, hco, hfo⟩ := hO4.getg (i := ci) hcn
        clear hcy hc1 hc2 hO hC hE hE4 hE05 HWC hb3 HCS
        go_wp2_with fail
        have hO5 := ((hO4.set ci (wv - bv + xp) (wf_of_i64 (by omega) (by omega))).cast HSet.out).e ((E.refl _).drew)
        have hC5 := (hC4.ex (X := fun i => i = g) (w' := w4.setCell ⟨g, ci, none⟩ (.int .i64 (wv - bv + xp))) ((Ex.refl (fun i => i = g) w4).setCell ⟨g, ci, none⟩ (.inr rfl) _) (fun b hb e => hrow b (by omega) hb e)).e ((E.refl _).drew)
        have hE5 := (hEw4.setCell (p := ⟨g, ci, none⟩) hg0 (.int .i64 (wv - bv + xp))).drew
        clear hO4 hC4 hEw4
        go_still_tail 17, (by kernel_rfl)
        go_wp2_with fail
        first
          | exact ⟨⟨k + 1, by omega, by go_num, hO5, hC5, hE5⟩, by simp [intOf]; omega⟩
          | (go_roundw
             case rel => exact ⟨k + 1, by omega, by go_num, hO5, hC5, hE5⟩
             case measure => simp [intOf]; omega)
      · have HT := Lib.hid (show payL l ((bestS l).1.take k) = payL l (bestS l).1 by rw [List.take_of_length_le (by have := HN3.out; omega)])
        go_wp2_with fail
        go_ret2
        exact RetOwnErr.mk_ (by rw [HFIN.out, HT.out]) hO hE
  · have HFIN := Lib.hid (show pricesF N l = ([], validS N l) by rw [pricesF, if_neg hv])
    have hne : (validS N l != 0) = true := by simpa using hv
    generalize validS N l = v at *
    clear h
    go_enter Try.func16, Try.ntmps16
    go_wp2_with fail
    refine HV.out.mono ?_
    rintro e w1 ⟨rfl, hE1⟩
    go_wp2_with fail
    go_ret2
    exact RetOwnErr.mk_ HFIN.out (Own.nil _ _ _ _) hE1
end Go.Proofs.Ytkcbdnaampiedaa
