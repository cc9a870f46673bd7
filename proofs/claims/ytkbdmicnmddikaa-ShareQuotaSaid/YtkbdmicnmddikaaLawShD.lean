/- The walk of ShareQuota. -/
import Derived.Test.YtkbdmicnmddikaaLawShA
namespace Go.Proofs.Ytkbdmicnmddikaa
open Go.RowKit

theorem quota_facts {t : Int} {ws : List Int} (h : SplitPre t ws) {i : Nat} {y x : Int} (hy : ws[i]? = some y) (hx : (splitL t ws)[i]? = some x) :
    divE t y ws.sum = 0 ∧ ceilE t y ws.sum = 0 ∧ divQ t y ws.sum ≤ x ∧ x ≤ ceilQ t y ws.sum ∧ ceilQ t y ws.sum - divQ t y ws.sum ≤ 1 ∧ 0 ≤ divQ t y ws.sum ∧ ceilQ t y ws.sum ≤ 1099511627776 := by
  obtain ⟨hi, rfl⟩ := List.getElem?_eq_some_iff.1 hy
  have hg : ws.getD i 0 = ws[i] := by rw [List.getD_eq_getElem?_getD, List.getElem?_eq_getElem hi]; rfl
  have hgx : (splitL t ws).getD i 0 = x := by rw [List.getD_eq_getElem?_getD, hx]; rfl
  have hm := List.getElem_mem hi
  have hq := splitL_quota h hi
  rw [hg, hgx] at hq
  generalize ws[i] = y at *
  have hw := h.w0 _ hm
  have hs := le_sum (fun x hx => (h.w0 x hx).1) hm
  have hok : divOk t y ws.sum = true := divOk_iff.2 ⟨⟨h.t0, h.t1⟩, ⟨hw.1, by omega⟩, h.s0, h.s1⟩
  have hle := part_le h.t0 hs h.s0
  have ht1 := h.t1
  have hfit : divFit t y ws.sum = true := by simp only [divFit, decide_eq_true_eq]; omega
  have e1 : divQ t y ws.sum = t * y / ws.sum := by simp [divQ, hok, hfit]
  have e2 : divR t y ws.sum = t * y % ws.sum := by simp [divR, hok, hfit]
  have e3 : divE t y ws.sum = 0 := by simp [divE, hok, hfit]
  have h0 := Int.ediv_nonneg (Int.mul_nonneg h.t0 hw.1) (Int.le_of_lt h.s0)
  have hcl : t * y / ws.sum + (if 0 < t * y % ws.sum then 1 else 0) ≤ 1099511627776 := by
    by_cases hr : 0 < t * y % ws.sum
    · rw [if_pos hr]
      have := ceil_le h.t0 hs h.s0 hr
      omega
    · rw [if_neg hr]; omega
  have e4 : ceilN t y ws.sum = t * y / ws.sum + (if 0 < t * y % ws.sum then 1 else 0) := by rw [ceilN, e1, e2]
  have e5 : ceilQ t y ws.sum = t * y / ws.sum + (if 0 < t * y % ws.sum then 1 else 0) := by rw [ceilQ, if_pos ⟨e3, by rw [e4]; exact hcl⟩, e4]
  have e6 : ceilE t y ws.sum = 0 := by rw [ceilE, if_pos e3, if_pos (by rw [e4]; exact hcl)]
  rw [e5, e1]
  refine ⟨e3, e6, hq.1, hq.2, ?_, h0, hcl⟩
  split <;> omega

set_option maxHeartbeats 2000000 in
set_option maxRecDepth 100000 in
theorem shareQuota_w (total : Int) (A : Option Addr) (n c : Nat) (l : List Int) (w : World) (h : Nums .i64 w A n c l) (h1 : -9223372036854775808 ≤ total) (h2 : total ≤ 9223372036854775807) :
    Calls Try.prog 5 #[.int .i64 total, .slice A n c] w (RetT w true) := by
  obtain ⟨t, ht⟩ : ∃ t, total % 1099511627777 = t := ⟨_, rfl⟩
  have t0 : 0 ≤ t := by omega
  have t1 : t ≤ 1099511627776 := by omega
  have hpre := weightsL_pre t0 t1 l
  have hwl := weightsL_len l
  have HP := Lib.hid hpre
  have HS := Lib.hid (show splitS t (weightsL l) = (splitL t (weightsL l), 0) by rw [splitS, if_pos (splitOk_of hpre)])
  have hS0 := hpre.s0
  have hS1 := hpre.s1
  have HSum := Lib.hid (splitL_sum hpre)
  have HLen := Lib.hid (splitL_len t (weightsL l))
  have HR := Lib.hid (splitL_range hpre)
  clear hpre
  go_enter Try.func5, Try.ntmps5
  go_wp2_with fail
  refine (aroundR total 1099511627777 _ h1 h2 (by omega) (by omega)).mono ?_
  rintro e w' ⟨rfl, rfl⟩
  go_wp2_with fail
  refine (refWeights_c A n c l _ h).mono ?_
  rintro e w1 ⟨A1, n1, c1, rfl, hO1, hE1⟩
  have hn1 := hO1.1
  generalize hwe : weightsL l = ws at *
  clear hwe
  rw [hn1] at hwl
  go_wp2_with fail
  refine (refSum_c A1 n1 c1 ws _ hO1.reads (by omega) (fun x hx => by have := HP.out.w0 x hx; omega)).mono ?_
  rintro e w' ⟨rfl, rfl⟩
  obtain ⟨S, hSe⟩ : ∃ S, ws.sum = S := ⟨_, rfl⟩
  rw [hSe] at hS0 hS1 ⊢
  have HSe := Lib.hid hSe
  clear hSe
  go_wp2_with fail
  refine (split_c t A1 n1 c1 ws _ hO1.reads (by omega)).mono ?_
  rw [HS.out]
  rintro e w2 ⟨A2, n2, c2, rfl, hO2, hE2⟩
  obtain rfl : n2 = n1 := by rw [← hO2.1, ← hn1]; exact HLen.out
  have hSumx := Lib.hid (refSum_c A2 n2 c2 (splitL t ws) w2 hO2.reads (by omega) (fun x hx => by have := HR.out x hx; omega))
  rw [HSum.out] at hSumx
  replace hO1 := hO1.reads.e hE2
  have hE := hE1.trans hE2
  clear hn1 hE1 hE2
  go_wp2_with (go_at_call 22; refine hSumx.out.mono ?_; rintro e w' ⟨rfl, rfl⟩)
  have hx := hO2.reads
  clear hSumx hO2
  go_loopw [10] (fun ti wr => ∃ i : Nat, i ≤ n2 ∧ ti = .int .i64 i ∧ Q w2 wr) (fun ti _ => n2 - (intOf ti).toNat)
  case atStart => exact ⟨0, Nat.zero_le _, rfl, Q.refl _⟩
  case round =>
    obtain ⟨i, hi, rfl, hq⟩ := hrel
    obtain ⟨wi, rfl⟩ : ∃ wo : World, wo = wr := ⟨_, rfl⟩
    by_cases hlt : i < n2
    · obtain ⟨b1, o1, y, rfl, hb1, hy, _, cy⟩ := (hO1.q hq).get hlt
      obtain ⟨b2, o2, x, rfl, hb2, hxx, _, cx⟩ := (hx.q hq).get hlt
      obtain ⟨p1, p2, p3, p4, p5, p6, p7⟩ := quota_facts HP.out hy hxx
      rw [HSe.out] at p1 p2 p3 p4 p5 p6 p7
      have P1 := Lib.hid (part_c t y S)
      have P2 := Lib.hid (ceil_c t y S)
      rw [p1] at P1
      rw [p2] at P2
      clear p1 p2 hy hxx
      generalize divQ t y S = lo at *
      generalize ceilQ t y S = hi' at *
      go_wp2_with fail
      refine (P1.out _).mono ?_
      rintro e w3 ⟨rfl, hQ3⟩
      have cy3 : w3.cell? ⟨b1, o1 + i, none⟩ = some (.int .i64 y) := ((E.of_q hQ3).cell hb1).trans cy
      have cx3 : w3.cell? ⟨b2, o2 + i, none⟩ = some (.int .i64 x) := ((E.of_q hQ3).cell hb2).trans cx
      clear cy cx
      go_wp2_with fail
      refine (P2.out _).mono ?_
      rintro e w4 ⟨rfl, hQ4⟩
      have cx4 : w4.cell? ⟨b2, o2 + i, none⟩ = some (.int .i64 x) := ((E.of_q hQ4).cell (Nat.lt_of_lt_of_le hb2 (E.of_q hQ3).le)).trans cx3
      clear cy3 cx3
      go_wp2_with fail
      go_roundw
      case rel => exact ⟨i + 1, by omega, by go_num, (hq.trans hQ3).trans hQ4⟩
      case measure => simp [intOf]; omega
    · go_wp2_with fail
      refine (shLives_c _).mono ?_
      rintro e w4 ⟨rfl, hE4⟩
      go_wp2_with fail
      go_ret
      exact ⟨rfl, (hE.q hq).trans hE4⟩
end Go.Proofs.Ytkbdmicnmddikaa
