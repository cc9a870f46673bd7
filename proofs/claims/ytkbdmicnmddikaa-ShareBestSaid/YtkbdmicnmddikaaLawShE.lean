/- The walk of ShareScale. -/
import Derived.Test.YtkbdmicnmddikaaLawShC
import Derived.Deep.CutBlock
namespace Go.Proofs.Ytkbdmicnmddikaa
open Go.RowKit

def mods (m : Int) (l : List Int) (k : Nat) : List Int := (l.take k).map fun x => x % m
theorem mods_fin {m : Int} {l : List Int} {k n : Nat} (hl : l.length = n) (h : k = 6 ∨ n ≤ k) (h6 : k ≤ 6) : mods m l k = mods m l 6 := by
  unfold mods
  congr 1
  rcases h with h | h
  · rw [h]
  · rw [List.take_of_length_le (by omega), List.take_of_length_le (by omega)]
theorem mods_range {m : Int} (hm : 0 < m) {l : List Int} {k : Nat} : ∀ x ∈ mods m l k, 0 ≤ x ∧ x < m := by
  intro x hx
  simp only [mods, List.mem_map] at hx
  obtain ⟨y, _, rfl⟩ := hx
  exact ⟨Int.emod_nonneg _ (by omega), Int.emod_lt_of_pos _ hm⟩
theorem mods_len (m : Int) (l : List Int) (k : Nat) : (mods m l k).length ≤ k := by simp [mods]; omega
theorem sum_le_len {M : Int} : ∀ {l : List Int}, (∀ x ∈ l, 0 ≤ x ∧ x ≤ M) → l.sum ≤ M * (l.length : Int)
  | [], _ => by simp
  | a :: l, h => by
    have ih := sum_le_len (l := l) fun x hx => h x (by simp [hx])
    have ha := h a (by simp)
    rw [List.sum_cons, List.length_cons, Int.natCast_add, Int.mul_add]; omega
theorem mods_pre {t m z : Int} (h0 : 0 ≤ t) (h1 : t ≤ 1099511627776) (hm : 0 < m) (hm1 : m ≤ 1073741824) (hz : 0 < z) (hz1 : z ≤ 1073741824) (l : List Int) : SplitPre t (mods m l 6 ++ [z]) := by
  have hr : ∀ x ∈ mods m l 6 ++ [z], 0 ≤ x ∧ x ≤ 1073741824 := by
    intro x hx
    rcases List.mem_append.1 hx with hx | hx
    · have := mods_range hm x hx; omega
    · simp at hx; omega
  have hl := mods_len m l 6
  have hs := sum_le_len hr
  have h2 := sum_nonneg fun x hx => (mods_range hm (l := l) (k := 6) x hx).1
  refine ⟨h0, h1, fun x hx => ?_, ?_, ?_⟩
  · have := hr x hx; omega
  · rw [List.sum_append]; simp; omega
  · simp only [List.length_append, List.length_cons, List.length_nil] at hs; omega
theorem scale_pre {t k : Int} {ws : List Int} (h : SplitPre t ws) (hk0 : 0 < k) (hk1 : k ≤ 1000) (hw : ∀ x ∈ ws, 0 ≤ x ∧ x ≤ 1048576) (hl : ws.length ≤ 7) : SplitPre t (ws.map (k * ·)) := by
  have hr : ∀ x ∈ ws.map (k * ·), 0 ≤ x ∧ x ≤ 1048576000 := by
    intro x hx
    simp only [List.mem_map] at hx
    obtain ⟨y, hy, rfl⟩ := hx
    have := hw y hy
    have m1 := Int.mul_nonneg (Int.le_of_lt hk0) this.1
    have m2 : k * y ≤ 1000 * y := Int.mul_le_mul_of_nonneg_right hk1 this.1
    omega
  have hs := sum_le_len hr
  rw [List.length_map] at hs
  refine ⟨h.t0, h.t1, fun x hx => ?_, ?_, ?_⟩
  · have := hr x hx; omega
  · rw [sum_mul]; exact Int.mul_pos hk0 h.s0
  · have : ((ws.length : Nat) : Int) ≤ 7 := by omega
    omega

set_option maxHeartbeats 4000000 in
set_option maxRecDepth 100000 in
theorem shareScale_w (total : Int) (A : Option Addr) (n c : Nat) (l : List Int) (factor : Int) (w : World) (h : Nums .i64 w A n c l) (h1 : -9223372036854775808 ≤ total) (h2 : total ≤ 9223372036854775807) (g1 : -9223372036854775808 ≤ factor) (g2 : factor ≤ 9223372036854775807) :
    Calls Try.prog 6 #[.int .i64 total, .slice A n c, .int .i64 factor] w (RetT w true) := by
  have hm := h.n63
  obtain ⟨t, ht⟩ : ∃ t, total % 1099511627777 = t := ⟨_, rfl⟩
  obtain ⟨f, hf⟩ : ∃ f, factor % 1000 = f := ⟨_, rfl⟩
  have t0 : 0 ≤ t := by omega
  have t1 : t ≤ 1099511627776 := by omega
  have f0 : 0 ≤ f := by omega
  have f1 : f ≤ 999 := by omega
  have hpre := mods_pre (m := 1048577) (z := 1) t0 t1 (by omega) (by omega) (by omega) (by omega) l
  have hrng : ∀ x ∈ mods 1048577 l 6 ++ [1], 0 ≤ x ∧ x ≤ 1048576 := by
    intro x hx
    rcases List.mem_append.1 hx with hx | hx
    · have := mods_range (m := 1048577) (by omega) x hx; omega
    · simp at hx; omega
  have hlen : (mods 1048577 l 6 ++ [1]).length ≤ 7 := by have := mods_len 1048577 l 6; simp; omega
  have hpre2 := scale_pre (k := 1 + f) hpre (by omega) (by omega) hrng hlen
  have HP := Lib.hid hpre
  have HS1 := Lib.hid (show splitS t (mods 1048577 l 6 ++ [1]) = (splitL t (mods 1048577 l 6 ++ [1]), 0) by rw [splitS, if_pos (splitOk_of hpre)])
  have HS2 := Lib.hid (show splitS t ((mods 1048577 l 6 ++ [1]).map ((1 + f) * ·)) = (splitL t (mods 1048577 l 6 ++ [1]), 0) by rw [splitS, if_pos (splitOk_of hpre2), splitL_scale (by omega)])
  have HR := Lib.hid hrng
  have HLn := Lib.hid hlen
  clear hpre hpre2 hrng hlen
  go_enter Try.func6, Try.ntmps6
  go_wp2_with fail
  refine (aroundR total 1099511627777 _ h1 h2 (by omega) (by omega)).mono ?_
  rintro e w' ⟨rfl, rfl⟩
  go_wp2_with fail
  refine (aroundR factor 1000 _ g1 g2 (by omega) (by omega)).mono ?_
  rintro e w' ⟨rfl, rfl⟩
  go_upto_block 0 with fail
  go_cut [9] (fun tv wr => ∃ (k c' : Nat) (A' : Option Addr), k ≤ 6 ∧ tv = .slice A' k c' ∧ Own .i64 3 wr w.heap.size A' k c' (mods 1048577 l 6) ∧ E w wr)
  case first =>
    go_wp2_with fail
    go_loopw [9, 11] (fun tv ti wr => ∃ (k c' : Nat) (A' : Option Addr), k ≤ n ∧ k ≤ 6 ∧ ti = .int .i64 k ∧ tv = .slice A' k c' ∧ Own .i64 3 wr w.heap.size A' k c' (mods 1048577 l k) ∧ E w wr) (fun _ ti _ => n - (intOf ti).toNat)
    case atStart => exact ⟨0, 0, none, Nat.zero_le _, by omega, rfl, rfl, by simpa [mods] using Own.nil _ _ _ _, E.refl _⟩
    case round =>
      obtain ⟨k, c', A', hk, hk6, rfl, rfl, hown, hE⟩ := hrel
      have hle := hE.le
      obtain ⟨wi, rfl⟩ : ∃ wo : World, wo = wr := ⟨_, rfl⟩
      by_cases hlt : k < n
      · by_cases h6 : k < 6
        · have h6I : (k : Int) < 6 := by omega
          obtain ⟨b, o, x, rfl, hb, hx, hwx, hck⟩ := (h.e hE).get hlt
          obtain ⟨x0, x1⟩ := wf_i64 hwx
          obtain ⟨y, hy⟩ : ∃ y, x % 1048577 = y := ⟨_, rfl⟩
          have HM := Lib.hid (show mods 1048577 l (k + 1) = mods 1048577 l k ++ [y] by rw [← hy]; exact map_snoc (f := fun x => x % 1048577) hx)
          have y0 : 0 ≤ y := by omega
          have y1 : y ≤ 1048576 := by omega
          clear hx hwx
          go_wp2_with (first
            | (go_at_call 12; refine (aroundR _ _ _ x0 x1 (by omega) (by omega)).mono ?_; rintro e w' ⟨rfl, rfl⟩)
            | (at_builtin; refine wpList_app1n intT3 _ rfl _ _ rfl _ _ _ _ _ rfl hown _ rfl (wf_of_i64 (by omega) (by omega)) (by omega) hle ?_; intro g' c2 w1 hO hG hB hor))
          rw [← HM.out] at hO
          go_roundw
          case rel => exact ⟨k + 1, c2, _, by omega, by omega, by go_num, rfl, hO, hE.up hB⟩
          case measure => simp [intOf]; omega
        · have h6I : ¬ (k : Int) < 6 := by omega
          rw [mods_fin h.len (by omega) hk6] at hown
          go_wp2_with fail
          go_meet
          exact ⟨k, c', A', hk6, rfl, hown, hE⟩
      · rw [mods_fin h.len (by omega) hk6] at hown
        go_wp2_with fail
        go_meet
        exact ⟨k, c', A', hk6, rfl, hown, hE⟩
  case rest =>
    obtain ⟨k, c', A', hk6, rfl, hown, hE⟩ := hcut
    have hle := hE.le
    generalize wc = wi at *
    go_wp2_with (at_builtin; refine wpList_app1n intT3 _ rfl _ _ rfl _ _ _ _ _ rfl hown _ rfl (wf_of_i64 (by omega) (by omega)) (by omega) hle ?_; intro g' c2 w1 hO hG hB hor)
    replace hE := hE.up hB
    generalize hwse : mods 1048577 l 6 ++ [1] = ws at *
    clear hwse hown hG hB hor
    have hWr := hO.reads
    have hwl := hO.1
    clear hO
    go_loopw [10, 12] (fun tv ti wr => ∃ (j cv : Nat) (Av : Option Addr), j ≤ k + 1 ∧ ti = .int .i64 j ∧ tv = .slice Av j cv ∧ Own .i64 3 wr w1.heap.size Av j cv ((ws.take j).map ((1 + f) * ·)) ∧ E w1 wr) (fun _ ti _ => k + 1 - (intOf ti).toNat)
    case atStart => exact ⟨0, 0, none, Nat.zero_le _, rfl, rfl, by simpa using Own.nil _ _ _ _, E.refl _⟩
    case round =>
      obtain ⟨j, cv, Av, hj, rfl, rfl, hv, hE1⟩ := hrel
      obtain ⟨wj, rfl⟩ : ∃ wo : World, wo = wr := ⟨_, rfl⟩
      have hle1 := hE1.le
      by_cases hjn : j < k + 1
      · obtain ⟨b, o, x, e0, hb, hx, hwx, hck⟩ := (hWr.e hE1).get hjn
        injection e0 with e0; injection e0 with e0 e0'; subst e0 e0'
        rw [Nat.zero_add] at hck
        obtain ⟨x0, x1⟩ := HR.out x (List.mem_of_getElem? hx)
        have m0 := Int.mul_nonneg (show 0 ≤ 1 + f by omega) x0
        have m1 : (1 + f) * x ≤ 1000 * x := Int.mul_le_mul_of_nonneg_right (by omega) x0
        have HM := Lib.hid (map_snoc (f := ((1 + f) * ·)) hx)
        clear hx hwx
        have hjI : (j : Int) < (k : Int) + 1 := by omega
        go_wp2_with (at_builtin; refine wpList_app1n intT3 _ rfl _ _ rfl _ _ _ _ _ rfl hv _ rfl (wf_of_i64 (by omega) (by omega)) (by omega) hle1 ?_; intro g2' c3 w3 hv3 hG3 hB3 hor3)
        rw [← HM.out] at hv3
        go_roundw
        case rel => exact ⟨j + 1, c3, _, by omega, by go_num, rfl, hv3, hE1.up hB3⟩
        case measure => simp [intOf]; omega
      · obtain rfl : j = k + 1 := by omega
        rw [List.take_of_length_le (by omega)] at hv
        replace hWr := hWr.e hE1
        replace hE := hE.trans hE1
        have HLen := Lib.hid (splitL_len t ws)
        go_wp2_with fail
        refine (split_c t _ (k + 1) c2 ws _ hWr (by omega)).mono ?_
        rw [HS1.out]
        rintro e w5 ⟨A5, n5, c5, rfl, hO5, hE5⟩
        obtain rfl : n5 = k + 1 := by rw [← hO5.1, HLen.out, hwl]
        replace hv := hv.e hE5
        replace hWr := hWr.e hE5
        replace hE := hE.trans hE5
        clear hE5
        go_wp2_with fail
        refine (split_c t Av (k + 1) cv _ _ hv.reads (by omega)).mono ?_
        rw [HS2.out]
        rintro e w6 ⟨A6, n6, c6, rfl, hO6, hE6⟩
        replace hWr := hWr.e hE6
        have hA := hO5.reads.e hE6
        replace hE := hE.trans hE6
        clear hE6 hv hO5
        go_wp2_with fail
        refine (sameR_t _ _ _ _ _ _ _ _ hA hO6.reads).mono ?_
        rintro e w7 ⟨rfl, hE7⟩
        replace hWr := hWr.e hE7
        replace hA := hA.e hE7
        replace hE := hE.trans hE7
        clear hE7 hO6 hE1
        have hkI : ((k : Nat) : Int) ≤ 6 := by omega
        have hm1 := hWr.c63
        have hm2 := hA.c63
        go_wp2_with fail
        go_loopw [17, 18] (fun ti _ wr => ∃ i : Nat, i ≤ k + 1 ∧ ti = .int .i64 i ∧ Q w7 wr) (fun ti _ _ => k + 1 - (intOf ti).toNat)
        case atStart => exact ⟨0, Nat.zero_le _, rfl, Q.refl _⟩
        case round =>
          obtain ⟨i, hi, rfl, hq⟩ := hrel
          obtain ⟨wa, rfl⟩ : ∃ wo : World, wo = wr := ⟨_, rfl⟩
          by_cases hin : i < k + 1
          · obtain ⟨bi, oi, wi', ei, hbi, hwi, _, cwi⟩ := (hWr.q hq).get hin
            injection ei with ei; injection ei with ei ei'; subst ei ei'
            rw [Nat.zero_add] at cwi
            obtain ⟨ba, oa, ai, rfl, hba, hai, _, cai⟩ := (hA.q hq).get hin
            have hiI : (i : Int) < (k : Int) + 1 := by omega
            go_wp2_with fail
            go_loopw [18] (fun tj wr => ∃ j : Nat, j ≤ k + 1 ∧ tj = .int .i64 j ∧ Q wa wr) (fun tj _ => k + 1 - (intOf tj).toNat)
            case atStart => exact ⟨0, Nat.zero_le _, rfl, Q.refl _⟩
            case round =>
              obtain ⟨j, hj, rfl, hq2⟩ := hrel
              obtain ⟨wb, rfl⟩ : ∃ wo : World, wo = wr := ⟨_, rfl⟩
              by_cases hjn : j < k + 1
              · obtain ⟨bj, oj, wj', ej, _, hwj, _, cwj⟩ := (hWr.q (hq.trans hq2)).get hjn
                injection ej with ej; injection ej with ej ej'; subst ej ej'
                rw [Nat.zero_add] at cwj
                obtain ⟨bb, ob', aj, ea, _, haj, _, caj⟩ := (hA.q (hq.trans hq2)).get hjn
                injection ea with ea; injection ea with ea ea'; subst ea ea'
                have cwi2 : wb.cell? ⟨g', i, none⟩ = some (.int .i64 wi') := ((E.of_q hq2).cell hbi).trans cwi
                have cai2 : wb.cell? ⟨ba, oa + i, none⟩ = some (.int .i64 ai) := ((E.of_q hq2).cell hba).trans cai
                have hjI : (j : Int) < (k : Int) + 1 := by omega
                have hmono : wj' < wi' → aj ≤ ai := by
                  intro hlt
                  have := splitL_mono HP.out (i := i) (j := j) (by omega) (by omega) (by rw [List.getD_eq_getElem?_getD, List.getD_eq_getElem?_getD, hwi, hwj]; exact hlt)
                  rwa [List.getD_eq_getElem?_getD, List.getD_eq_getElem?_getD, hai, haj] at this
                clear hwj haj
                by_cases hg : wj' < wi'
                · have hmm := hmono hg
                  have d1 : decide (wj' < wi') = true := by simpa using hg
                  have d2 : decide (ai < aj) = false := by simpa using hmm
                  clear hmono cwi cai
                  go_wp2_with fail
                  go_quiet (fail)
                  go_wp2_with fail
                  go_roundw
                  case rel => exact ⟨j + 1, by omega, by go_num, hq2.drewN _⟩
                  case measure => simp [intOf]; omega
                · have d1 : decide (wj' < wi') = false := by simpa using hg
                  clear hmono cwi cai
                  go_wp2_with fail
                  go_quiet (fail)
                  go_wp2_with fail
                  go_roundw
                  case rel => exact ⟨j + 1, by omega, by go_num, hq2.drewN _⟩
                  case measure => simp [intOf]; omega
              · go_wp2_with fail
                go_roundw
                case rel => exact ⟨i + 1, by omega, by go_num, hq.trans hq2⟩
                case measure => simp [intOf]; omega
          · go_wp2_with fail
            refine (shLives_c _).mono ?_
            rintro e w9 ⟨rfl, hE9⟩
            go_wp2_with fail
            go_ret
            exact ⟨rfl, (hE.q hq).trans hE9⟩
end Go.Proofs.Ytkbdmicnmddikaa
