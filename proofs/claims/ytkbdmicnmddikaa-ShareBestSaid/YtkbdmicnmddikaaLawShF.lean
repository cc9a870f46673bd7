/- The walk of ShareBest. -/
import Derived.Test.YtkbdmicnmddikaaLawShE
namespace Go.Proofs.Ytkbdmicnmddikaa
open Go.RowKit

set_option maxHeartbeats 400000 in
theorem far_c (a b : Int) (w : World) (a0 : -1099511627776 ≤ a) (a1 : a ≤ 1099511627776) (b0 : -1099511627776 ≤ b) (b1 : b ≤ 1099511627776) :
    Calls Try.prog 23 #[.int .i64 a, .int .i64 b] w fun e w' => e = .returned (.int .i64 (farB a b)) ∧ w = w' := by
  by_cases h : a < b
  · have HF := Lib.hid (show b - a = farB a b by rw [farB, if_pos h])
    generalize farB a b = v at *
    go_enter Try.func23, Try.ntmps23
    go_wp2
    go_ret
    exact ⟨ret_int HF.out, rfl⟩
  · have HF := Lib.hid (show a - b = farB a b by rw [farB, if_neg h])
    generalize farB a b = v at *
    go_enter Try.func23, Try.ntmps23
    go_wp2
    go_ret
    exact ⟨ret_int HF.out, rfl⟩
theorem farB_range {a b : Int} (a0 : -1099511627776 ≤ a) (a1 : a ≤ 1099511627776) (b0 : -1099511627776 ≤ b) (b1 : b ≤ 1099511627776) : 0 ≤ farB a b ∧ farB a b ≤ 2199023255552 := by
  unfold farB; split <;> omega
theorem prod_bd {x S : Int} (hx0 : -1 ≤ x) (hx1 : x ≤ 4096) (hS0 : 0 ≤ S) (hS1 : S ≤ 1000000) : -1099511627776 ≤ x * S ∧ x * S ≤ 1099511627776 := by
  have a1 : x * S ≤ 4096 * S := Int.mul_le_mul_of_nonneg_right hx1 hS0
  have a2 : -1 * S ≤ x * S := Int.mul_le_mul_of_nonneg_right hx0 hS0
  omega

set_option maxHeartbeats 4000000 in
set_option maxRecDepth 100000 in
theorem shareBest_w (total : Int) (A : Option Addr) (n c : Nat) (l : List Int) (w : World) (h : Nums .i64 w A n c l) (h1 : -9223372036854775808 ≤ total) (h2 : total ≤ 9223372036854775807) :
    Calls Try.prog 7 #[.int .i64 total, .slice A n c] w (RetT w true) := by
  have hm := h.n63
  obtain ⟨t, ht⟩ : ∃ t, total % 4096 = t := ⟨_, rfl⟩
  have t0 : 0 ≤ t := by omega
  have t1 : t ≤ 4095 := by omega
  have hpre := mods_pre (m := 65536) (z := 3) t0 (by omega) (by omega) (by omega) (by omega) (by omega) l
  have hrng : ∀ x ∈ mods 65536 l 6 ++ [3], 0 ≤ x ∧ x ≤ 65535 := by
    intro x hx
    rcases List.mem_append.1 hx with hx | hx
    · have := mods_range (m := 65536) (by omega) x hx; omega
    · simp at hx; omega
  have hlen : (mods 65536 l 6 ++ [3]).length ≤ 7 := by have := mods_len 65536 l 6; simp; omega
  have hsum : (mods 65536 l 6 ++ [3]).sum ≤ 1000000 := by have := sum_le_len hrng; omega
  have HP := Lib.hid hpre
  have HS1 := Lib.hid (show splitS t (mods 65536 l 6 ++ [3]) = (splitL t (mods 65536 l 6 ++ [3]), 0) by rw [splitS, if_pos (splitOk_of hpre)])
  have hS0 := hpre.s0
  have HR := Lib.hid hrng
  have HX := Lib.hid (splitL_range hpre)
  clear hpre hrng hlen
  go_enter Try.func7, Try.ntmps7
  go_wp2_with fail
  refine (aroundR total 4096 _ h1 h2 (by omega) (by omega)).mono ?_
  rintro e w' ⟨rfl, rfl⟩
  go_upto_block 0 with fail
  go_cut [6] (fun tv wr => ∃ (k c' : Nat) (A' : Option Addr), k ≤ 6 ∧ tv = .slice A' k c' ∧ Own .i64 3 wr w.heap.size A' k c' (mods 65536 l 6) ∧ E w wr)
  case first =>
    go_wp2_with fail
    go_loopw [6, 7] (fun tv ti wr => ∃ (k c' : Nat) (A' : Option Addr), k ≤ n ∧ k ≤ 6 ∧ ti = .int .i64 k ∧ tv = .slice A' k c' ∧ Own .i64 3 wr w.heap.size A' k c' (mods 65536 l k) ∧ E w wr) (fun _ ti _ => n - (intOf ti).toNat)
    case atStart => exact ⟨0, 0, none, Nat.zero_le _, by omega, rfl, rfl, by simpa [mods] using Own.nil _ _ _ _, E.refl _⟩
    case round =>
      obtain ⟨k, c', A', hk, hk6, rfl, rfl, hown, hE⟩ := hrel
      have hle := hE.le
      obtain ⟨wi, rfl⟩ : ∃ wo : World, wo = wr := ⟨_, rfl⟩
      by_cases hlt : k < n
      · by_cases h6 : k < 6
        · have h6I : (k : Int) < 6 := by omega
          obtain ⟨b, o, x, rfl, hb, hx, hwx, hck⟩ := (h.e hE).get hlt
          obtain ⟨x0, x1⟩ := wf_i64 hwx
          obtain ⟨y, hy⟩ : ∃ y, x % 65536 = y := ⟨_, rfl⟩
          have HM := Lib.hid (show mods 65536 l (k + 1) = mods 65536 l k ++ [y] by rw [← hy]; exact map_snoc (f := fun x => x % 65536) hx)
          have y0 : 0 ≤ y := by omega
          have y1 : y ≤ 65535 := by omega
          clear hx hwx
          go_wp2_with (first
            | (go_at_call 12; refine (aroundR _ _ _ x0 x1 (by omega) (by omega)).mono ?_; rintro e w' ⟨rfl, rfl⟩)
            | (at_builtin; refine wpList_app1n intT3 _ rfl _ _ rfl _ _ _ _ _ rfl hown _ rfl (wf_of_i64 (by omega) (by omega)) (by omega) hle ?_; intro g' c2 w1 hO hG hB hor))
          rw [← HM.out] at hO
          go_roundw
          case rel => exact ⟨k + 1, c2, _, by omega, by omega, by go_num, rfl, hO, hE.up hB⟩
          case measure => simp [intOf]; omega
        · have h6I : ¬ (k : Int) < 6 := by omega
          rw [mods_fin h.len (by omega) hk6] at hown
          go_wp2_with fail
          go_meet
          exact ⟨k, c', A', hk6, rfl, hown, hE⟩
      · rw [mods_fin h.len (by omega) hk6] at hown
        go_wp2_with fail
        go_meet
        exact ⟨k, c', A', hk6, rfl, hown, hE⟩
  case rest =>
    obtain ⟨k, c', A', hk6, rfl, hown, hE⟩ := hcut
    have hle := hE.le
    generalize wc = wi at *
    go_wp2_with (at_builtin; refine wpList_app1n intT3 _ rfl _ _ rfl _ _ _ _ _ rfl hown _ rfl (wf_of_i64 (by omega) (by omega)) (by omega) hle ?_; intro g' c2 w1 hO hG hB hor)
    replace hE := hE.up hB
    generalize hwse : mods 65536 l 6 ++ [3] = ws at *
    clear hwse hown hG hB hor
    have hWr := hO.reads
    have hwl := hO.1
    clear hO
    refine (refSum_c _ (k + 1) c2 ws _ hWr (by omega) (fun x hx => by have := HR.out x hx; omega)).mono ?_
    rintro e w' ⟨rfl, rfl⟩
    obtain ⟨S, hSe⟩ : ∃ S, ws.sum = S := ⟨_, rfl⟩
    rw [hSe] at hS0 hsum ⊢
    have HSe := Lib.hid hSe
    clear hSe
    have HLen := Lib.hid (splitL_len t ws)
    go_wp2_with fail
    refine (split_c t _ (k + 1) c2 ws _ hWr (by omega)).mono ?_
    rw [HS1.out]
    rintro e w5 ⟨A5, n5, c5, rfl, hO5, hE5⟩
    obtain rfl : n5 = k + 1 := by rw [← hO5.1, HLen.out, hwl]
    have hA := hO5.reads
    replace hWr := hWr.e hE5
    replace hE := hE.trans hE5
    clear hE5 hO5
    have hkI : ((k : Nat) : Int) ≤ 6 := by omega
    have hm1 := hWr.c63
    have hm2 := hA.c63
    go_wp2_with fail
    go_loopw [11, 12] (fun ti _ wr => ∃ i : Nat, i ≤ k + 1 ∧ ti = .int .i64 i ∧ Q w5 wr) (fun ti _ _ => k + 1 - (intOf ti).toNat)
    case atStart => exact ⟨0, Nat.zero_le _, rfl, Q.refl _⟩
    case round =>
      obtain ⟨i, hi, rfl, hq⟩ := hrel
      obtain ⟨wa, rfl⟩ : ∃ wo : World, wo = wr := ⟨_, rfl⟩
      by_cases hin : i < k + 1
      · obtain ⟨bi, oi, wi', ei, hbi, hwi, _, cwi⟩ := (hWr.q hq).get hin
        injection ei with ei; injection ei with ei ei'; subst ei ei'
        rw [Nat.zero_add] at cwi
        obtain ⟨ba, oa, ai, rfl, hba, hai, _, cai⟩ := (hA.q hq).get hin
        have hiI : (i : Int) < (k : Int) + 1 := by omega
        go_wp2_with fail
        go_loopw [12] (fun tj wr => ∃ j : Nat, j ≤ k + 1 ∧ tj = .int .i64 j ∧ Q wa wr) (fun tj _ => k + 1 - (intOf tj).toNat)
        case atStart => exact ⟨0, Nat.zero_le _, rfl, Q.refl _⟩
        case round =>
          obtain ⟨j, hj, rfl, hq2⟩ := hrel
          obtain ⟨wb, rfl⟩ : ∃ wo : World, wo = wr := ⟨_, rfl⟩
          by_cases hjn : j < k + 1
          · by_cases hij : i = j
            · have b1 : ((i : Int) == (j : Int)) = true := by simp [hij]
              clear hij
              go_wp2_with fail
              go_roundw
              case rel => exact ⟨j + 1, by omega, by go_num, hq2⟩
              case measure => simp [intOf]; omega
            · have b1 : ((i : Int) == (j : Int)) = false := by simp; omega
              obtain ⟨bj, oj, wj', ej, _, hwj, _, cwj⟩ := (hWr.q (hq.trans hq2)).get hjn
              injection ej with ej; injection ej with ej ej'; subst ej ej'
              rw [Nat.zero_add] at cwj
              obtain ⟨bb, ob', aj, ea, _, haj, _, caj⟩ := (hA.q (hq.trans hq2)).get hjn
              injection ea with ea; injection ea with ea ea'; subst ea ea'
              have cwi2 : wb.cell? ⟨g', i, none⟩ = some (.int .i64 wi') := ((E.of_q hq2).cell hbi).trans cwi
              have cai2 : wb.cell? ⟨ba, oa + i, none⟩ = some (.int .i64 ai) := ((E.of_q hq2).cell hba).trans cai
              have hjI : (j : Int) < (k : Int) + 1 := by omega
              have hbest := splitL_best HP.out (i := i) (j := j) (by omega) (by omega)
              rw [HSe.out] at hbest
              simp only [List.getD_eq_getElem?_getD, hwi, hwj, hai, haj, Option.getD_some] at hbest
              obtain ⟨x0, x1⟩ := HX.out ai (List.mem_of_getElem? hai)
              obtain ⟨y0, y1⟩ := HX.out aj (List.mem_of_getElem? haj)
              obtain ⟨u0, u1⟩ := HR.out wi' (List.mem_of_getElem? hwi)
              obtain ⟨v0, v1⟩ := HR.out wj' (List.mem_of_getElem? hwj)
              obtain ⟨p1, p2⟩ := prod_bd (x := ai) (S := S) (by omega) (by omega) (by omega) hsum
              obtain ⟨p3, p4⟩ := prod_bd (x := t) (S := wi') (by omega) (by omega) (by omega) (by omega)
              obtain ⟨p5, p6⟩ := prod_bd (x := aj) (S := S) (by omega) (by omega) (by omega) hsum
              obtain ⟨p7, p8⟩ := prod_bd (x := t) (S := wj') (by omega) (by omega) (by omega) (by omega)
              obtain ⟨p9, p10⟩ := prod_bd (x := ai - 1) (S := S) (by omega) (by omega) (by omega) hsum
              obtain ⟨p11, p12⟩ := prod_bd (x := aj + 1) (S := S) (by omega) (by omega) (by omega) hsum
              have F1 := farB_range p1 p2 p3 p4
              have F2 := farB_range p5 p6 p7 p8
              have F3 := farB_range p9 p10 p3 p4
              have F4 := farB_range p11 p12 p7 p8
              have q1 := IntWalk.i64_in (ai * S) (by omega)
              have q2 := IntWalk.i64_in (t * wi') (by omega)
              have q3 := IntWalk.i64_in (aj * S) (by omega)
              have q4 := IntWalk.i64_in (t * wj') (by omega)
              have q5 := IntWalk.i64_in (ai - 1) (by omega)
              have q6 := IntWalk.i64_in (aj + 1) (by omega)
              have q7 := IntWalk.i64_in ((ai - 1) * S) (by omega)
              have q8 := IntWalk.i64_in ((aj + 1) * S) (by omega)
              have q9 := IntWalk.i64_in (farB (ai * S) (t * wi') + farB (aj * S) (t * wj')) (by omega)
              have q10 := IntWalk.i64_in (farB ((ai - 1) * S) (t * wi') + farB ((aj + 1) * S) (t * wj')) (by omega)
              have C1 := Lib.hid (fun W => far_c (ai * S) (t * wi') W p1 p2 p3 p4)
              have C2 := Lib.hid (fun W => far_c (aj * S) (t * wj') W p5 p6 p7 p8)
              have C3 := Lib.hid (fun W => far_c ((ai - 1) * S) (t * wi') W p9 p10 p3 p4)
              have C4 := Lib.hid (fun W => far_c ((aj + 1) * S) (t * wj') W p11 p12 p7 p8)
              clear F1 F2 F3 F4 p1 p2 p3 p4 p5 p6 p7 p8 p9 p10 p11 p12 x0 x1 y0 y1 u0 u1 v0 v1
              generalize farB (ai * S) (t * wi') = f1 at *
              generalize farB (aj * S) (t * wj') = f2 at *
              generalize farB ((ai - 1) * S) (t * wi') = f3 at *
              generalize farB ((aj + 1) * S) (t * wj') = f4 at *
              have d1 : decide (f3 + f4 < f1 + f2) = false := by simpa using hbest
              clear hbest hwj haj cwi cai
              go_wp2_with fail
              go_quiet ((first | (go_at_call 23; with_reducible exact quietS (C1.out _)) | (go_at_call 23; with_reducible exact quietS (C2.out _))))
              go_wp2_with fail
              have cwi3 : (wb.drewN nq).cell? ⟨g', i, none⟩ = some (.int .i64 wi') := cwi2
              have cai3 : (wb.drewN nq).cell? ⟨ba, oa + i, none⟩ = some (.int .i64 ai) := cai2
              have cwj3 : (wb.drewN nq).cell? ⟨g', j, none⟩ = some (.int .i64 wj') := cwj
              have caj3 : (wb.drewN nq).cell? ⟨ba, oa + j, none⟩ = some (.int .i64 aj) := caj
              replace hq2 := hq2.drewN nq
              clear cwi2 cai2 cwj caj
              generalize wb.drewN nq = wd at *
              go_quiet ((first | (go_at_call 23; with_reducible exact quietS (C3.out _)) | (go_at_call 23; with_reducible exact quietS (C4.out _))))
              clear q1 q2 q3 q4 q5 q6 q7 q8 q9 q10
              go_wp2_with fail
              go_roundw
              case rel => exact ⟨j + 1, by omega, by go_num, hq2.drewN _⟩
              case measure => simp [intOf]; omega
          · go_wp2_with fail
            go_roundw
            case rel => exact ⟨i + 1, by omega, by go_num, hq.trans hq2⟩
            case measure => simp [intOf]; omega
      · go_wp2_with fail
        refine (shLives_c _).mono ?_
        rintro e w9 ⟨rfl, hE9⟩
        go_wp2_with fail
        go_ret
        exact ⟨rfl, (hE.q hq).trans hE9⟩
end Go.Proofs.Ytkbdmicnmddikaa
