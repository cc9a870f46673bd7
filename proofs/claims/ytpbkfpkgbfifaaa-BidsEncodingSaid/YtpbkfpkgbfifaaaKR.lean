/- The generator of bids: some list of valid bids. -/
import Derived.Test.YtpbkfpkgbfifaaaKQ
namespace Go.Proofs.Ytpbkfpkgbfifaaa
open Go.RowKit

theorem lotsOk_up : ∀ {n m last : Int} {ls : List Int}, lotsOk n last ls = true → n ≤ m → lotsOk m last ls = true
  | _, _, _, [], _, _ => rfl
  | n, m, last, x :: r, h, hm => by
    simp only [lotsOk, Bool.and_eq_true, decide_eq_true_eq] at h ⊢
    exact ⟨⟨h.1.1, by omega⟩, lotsOk_up h.2 hm⟩
theorem lotsOk_snoc : ∀ {n last : Int} {ls : List Int}, lotsOk n last ls = true → last < n → lotsOk (n + 1) last (ls ++ [n]) = true
  | n, last, [], _, hl => by simp [lotsOk, hl]; omega
  | n, last, x :: r, h, hl => by
    simp only [List.cons_append, lotsOk, Bool.and_eq_true, decide_eq_true_eq] at h ⊢
    exact ⟨⟨h.1.1, by omega⟩, lotsOk_snoc h.2 h.1.2⟩
/-- a list that the generator may give, for K lots -/
def Gen (K : Int) (l : List Bd) : Prop := ∀ x ∈ l, bidE K x = 0 ∧ x.1 ≤ 6 ∧ x.2.1 ≤ 450
theorem gen_valid {K : Int} {l : List Bd} (h : Gen K l) (h1 : 1 ≤ K) (h2 : K ≤ 8) (hl : l.length ≤ 10) : validS K l = 0 := by
  rw [validS, if_neg (by omega), if_neg (by omega)]
  clear hl
  induction l with
  | nil => rfl
  | cons x l ih =>
    unfold validF
    rw [if_pos (h x List.mem_cons_self).1]
    exact ih fun y hy => h y (List.mem_cons_of_mem _ hy)

set_option maxHeartbeats 8000000 in
set_option maxRecDepth 100000 in
theorem bids27_c (K most : Nat) (A : Option Addr) (n c : Nat) (l : List Int) (w : World) (h : Nums .i64 w A n c l) (hK1 : 1 ≤ K) (hK8 : K ≤ 8) (hm1 : most ≤ 20) :
    Calls Try.prog 13 #[.int .i64 K, .slice A n c, .int .i64 most] w fun e w' => ∃ l', l'.length ≤ most ∧ Gen K l' ∧ RetBids 53 w l' e w' := by
  have hP := fun (i : Nat) (m : Int) (W : World) (hE : E w W) (hi : i ≤ 1000000) (h0 : 0 < m) (h1 : m ≤ 9223372036854775807) => pick1_c A n c l i m W (h.e hE) hi h0 h1
  have HPK := Lib.hid hP
  clear hP
  obtain ⟨cnt, hcnt⟩ : ∃ cnt, pickV l 0 ((most : Int) + 1) = cnt := ⟨_, rfl⟩
  have hcr := pickV_range l 0 (m := (most : Int) + 1) (by omega)
  rw [hcnt] at hcr
  obtain ⟨cr0, cr1⟩ := hcr
  have HCN := Lib.hid hcnt
  clear hcnt
  go_enter Try.func13, Try.ntmps13
  go_wp2_with fail
  go_loopw [7, 8] (fun t7 ti wr => ∃ (k c' : Nat) (A' : Option Addr) (q : List (Bd × Sl)), (k : Int) ≤ cnt ∧ ti = .int .i64 k ∧ t7 = .slice A' k c' ∧ BRow 53 wr w.heap.size A' k c' q ∧ E w wr ∧ Hid (Gen K (q.map Prod.fst))) (fun _ ti _ => most + 1 - (intOf ti).toNat)
  case atStart => exact ⟨0, 0, none, [], by omega, rfl, rfl, BRow.nil _ _ _, E.refl _, by intro x hx; simp at hx⟩
  case round =>
    obtain ⟨k, c', A', q, hk, rfl, rfl, hR, hE, hq⟩ := hrel
    go_wp2_with fail
    refine (HPK.out 0 ((most : Int) + 1) _ hE (by omega) (by omega) (by omega)).mono ?_
    rintro e w1 ⟨rfl, hE1⟩
    rw [HCN.out]
    have hR1 := hR.e hE1
    have hEw1 := hE.trans hE1
    clear hR hE hE1
    by_cases hlt : (k : Int) < cnt
    · have HQ1 := Lib.hid (HPK.out (1 + 3 * k) 1000000 _ hEw1 (by omega) (by omega) (by omega))
      rw [show ((1 + 3 * k : Nat) : Int) = 1 + 3 * (k : Int) by omega] at HQ1
      have hk20 : (k : Int) ≤ 20 := by omega
      have hr1 := pickV_range l (1 + 3 * k) (m := 1000000) (by omega)
      generalize pickV l (1 + 3 * k) 1000000 = kv at *
      obtain ⟨kv0, kv1⟩ := hr1
      go_wp2_with fail
      refine HQ1.out.mono ?_
      rintro e w2 ⟨rfl, hE2⟩
      have hR2 := hR1.e hE2
      have hEw2 := hEw1.trans hE2
      clear hR1 hEw1 hE2 HQ1
      obtain ⟨xb, hxb⟩ : ∃ xb, 1 + kv % 6 = xb := ⟨_, rfl⟩
      obtain ⟨p0, hp0⟩ : ∃ p0, 1 + kv / 6 % 9 = p0 := ⟨_, rfl⟩
      obtain ⟨m0, hm0⟩ : ∃ m0, 1 + kv / 216 % 50 = m0 := ⟨_, rfl⟩
      have hxb1 : 1 ≤ xb ∧ xb ≤ 6 := by omega
      have hp01 : 1 ≤ p0 ∧ p0 ≤ 9 := by omega
      have hm01 : 1 ≤ m0 ∧ m0 ≤ 50 := by omega
      have hpm : 1 ≤ p0 * m0 ∧ p0 * m0 ≤ 450 := by
        constructor
        · have := Int.mul_le_mul hp01.1 hm01.1 (by omega) (by omega); omega
        · have := Int.mul_le_mul hp01.2 hm01.2 (by omega) (by omega); omega
      have hRow0 : (w2.alloc (.cells #[.int .i64 xb, .int .i64 p0, .slice none 0 0] 53)).heap[w2.heap.size]? = some (.cells #[.int .i64 xb, .int .i64 p0, .slice none 0 0] 53 (0, 0)) := heap_alloc_new _ _
      have hRow1 : (w2.alloc (.cells #[.int .i64 xb, .int .i64 (p0 * m0), .slice none 0 0] 53)).heap[w2.heap.size]? = some (.cells #[.int .i64 xb, .int .i64 (p0 * m0), .slice none 0 0] 53 (0, 0)) := heap_alloc_new _ _
      have H0 := Lib.hid hRow0
      have H1 := Lib.hid hRow1
      have hE20 := (E.refl w2).alloc (.cells #[.int .i64 xb, .int .i64 p0, .slice none 0 0] 53)
      have hE21 := (E.refl w2).alloc (.cells #[.int .i64 xb, .int .i64 (p0 * m0), .slice none 0 0] 53)
      clear hRow0 hRow1
      refine (Classical.em (kv / 54 % 4 = 0)).elim (fun hc => ?c1) (fun hc => ?c2)
      case' c1 =>
        have hd : (kv / 54 % 4 == 0) = true := by simp [hc]
        go_upto_region 9 with fail
        have hb3 := H1.out
        have hE3 := hE21
        have hxp := hpm
        clear hE20 hE21 H0 H1 hpm
        generalize p0 * m0 = xp at *
        generalize w2.alloc (.cells #[.int .i64 xb, .int .i64 xp, .slice none 0 0] 53) = w3 at *
      case' c2 =>
        have hd : (kv / 54 % 4 == 0) = false := by simp [hc]
        go_upto_region 9 with fail
        have hb3 := H0.out
        have hE3 := hE20
        obtain ⟨xp, hxpe⟩ : ∃ xp, p0 = xp := ⟨_, rfl⟩
        have hxp : 1 ≤ xp ∧ xp ≤ 450 := by omega
        clear hE20 hE21 H0 H1 hpm
        rw [hxpe] at hb3 hE3 ⊢
        generalize w2.alloc (.cells #[.int .i64 xb, .int .i64 xp, .slice none 0 0] 53) = w3 at *
      all_goals
        clear hc hd hp0 hm0 hxb hp01 hm01
        have hEw3 := hEw2.trans hE3
        have HQ2 := Lib.hid (HPK.out (2 + 3 * k) 255 _ hEw3 (by omega) (by omega) (by omega))
        rw [show ((2 + 3 * k : Nat) : Int) = 2 + 3 * (k : Int) by omega] at HQ2
        have HQ3 := Lib.hid (fun W hE => HPK.out (3 + 3 * k) 255 W hE (by omega) (by omega) (by omega))
        rw [show ((3 + 3 * k : Nat) : Int) = 3 + 3 * (k : Int) by omega] at HQ3
        have hr2 := pickV_range l (2 + 3 * k) (m := 255) (by omega)
        have hr3 := pickV_range l (3 + 3 * k) (m := 255) (by omega)
        generalize pickV l (2 + 3 * k) 255 = v2 at *
        generalize pickV l (3 + 3 * k) 255 = v3 at *
        obtain ⟨v20, v21⟩ := hr2
        obtain ⟨v30, v31⟩ := hr3
        go_wp2_with fail
        refine HQ2.out.mono ?_
        rintro e w4 ⟨rfl, hE4⟩
        go_wp2_with fail
        refine (HQ3.out _ (hEw3.trans hE4)).mono ?_
        rintro e w5 ⟨rfl, hE5⟩
        have hE35 := hE4.trans hE5
        have hE25 := hE3.trans hE35
        have hb5 : w5.heap[w2.heap.size]? = _ := (hE35.block (lt_blk hb3)).trans hb3
        clear HQ2 HQ3 hE4 hE5 hb3 hE3 hEw3 hE35
        go_wp2_with fail
        go_loopw [11, 12] (fun t11 tj wq => ∃ (j nl cl : Nat) (bz : Int) (ls : List Int) (Al : Option Addr), j ≤ K ∧ tj = .int .i64 j ∧ t11 = .int .i64 bz ∧ wq.heap[w2.heap.size]? = some (.cells #[.int .i64 xb, .int .i64 xp, .slice Al nl cl] 53 (0, 0)) ∧ Own .i64 3 wq (w2.heap.size + 1) Al nl cl ls ∧ E w2 wq ∧ nl ≤ j ∧ Hid (lotsOk j (-1) ls = true) ∧ (j = K → 0 < nl)) (fun _ tj _ => K - (intOf tj).toNat)
        case atStart => exact ⟨0, 0, 0, _, [], none, Nat.zero_le _, rfl, rfl, hb5, Own.nil _ _ _ _, hE25, Nat.le_refl _, rfl, fun e => absurd e (by omega)⟩
        case round =>
          clear hb5 hE25
          obtain ⟨j, nl, cl, bz, ls, Al, hj, rfl, rfl, hbw, hO, hE2q, hnl, hlo, hne⟩ := hrel
          have hc2 : wr.cell? ⟨w2.heap.size, 2, none⟩ = some (.slice Al nl cl) := cell_of_row _ _ 2 _ _ _ hbw
          by_cases hjK : (j : Int) < (K : Int)
          · have hnb : ob Al ≠ some w2.heap.size := fun e => by have := (hO.ltN _ e).1; omega
            by_cases hb1 : bz.tmod 2 = 1
            · have hd1 : (bz.tmod 2 == 1) = true := by simp [hb1]
              have hbs : w2.heap.size + 1 ≤ wr.heap.size := lt_blk hbw
              go_wp2_with (at_builtin; refine wpList_app1n intTk _ rfl _ _ rfl _ _ _ _ _ rfl hO _ rfl (wf_of_i64 (by omega) (by omega)) (by omega) hbs ?_; intro g' c2' w6 hO6 hG6 hB6 hor6; have hb6 : w6.heap[w2.heap.size]? = _ := (hG6.block _ (lt_blk hbw) (fun e => hnb (by rw [← ob_eq Al nl cl]; exact e.symm))).trans hbw; have c62 : w6.cell? ⟨w2.heap.size, 2, none⟩ = some (.slice Al nl cl) := cell_of_row _ _ 2 _ _ _ hb6; have f62 := frozen_of_row _ _ 2 _ _ hb6)
              exact ⟨⟨j + 1, nl + 1, c2', _, ls ++ [(j : Int)], some ⟨g', 0, none⟩, by omega, by go_num, rfl, by rw [heap_setCell_same _ _ _ _ _ _ hb6]; rfl, hO6.ex (X := fun i => i = w2.heap.size) ((Ex.refl (fun i => i = w2.heap.size) w6).setCell ⟨w2.heap.size, 2, none⟩ (.inr rfl) _) (fun b hb e => by have := (hO6.ltN b hb).1; omega), (hE2q.up (hB6.mono (by omega))).setCell (p := ⟨w2.heap.size, 2, none⟩) (Nat.le_refl _) _, by omega, show _ = _ by (have := lotsOk_snoc hlo.out (show (-1 : Int) < (j : Int) by omega)); rw [show ((j + 1 : Nat) : Int) = (j : Int) + 1 by omega]; exact this, fun _ => by omega⟩, by simp [intOf]; omega⟩
            · have hd1 : (bz.tmod 2 == 1) = false := by simp [hb1]
              by_cases hjl : (j : Int) = (K : Int) - 1
              · have hd2 : ((j : Int) == (K : Int) - 1) = true := by simp [hjl]
                by_cases hn0 : nl = 0
                · have hd3 : ((nl : Int) == 0) = true := by simp [hn0]
                  clear hn0 hjl
                  have hbs : w2.heap.size + 1 ≤ wr.heap.size := lt_blk hbw
                  go_wp2_with (at_builtin; refine wpList_app1n intTk _ rfl _ _ rfl _ _ _ _ _ rfl hO _ rfl (wf_of_i64 (by omega) (by omega)) (by omega) hbs ?_; intro g' c2' w6 hO6 hG6 hB6 hor6; have hb6 : w6.heap[w2.heap.size]? = _ := (hG6.block _ (lt_blk hbw) (fun e => hnb (by rw [← ob_eq Al nl cl]; exact e.symm))).trans hbw; have c62 : w6.cell? ⟨w2.heap.size, 2, none⟩ = some (.slice Al nl cl) := cell_of_row _ _ 2 _ _ _ hb6; have f62 := frozen_of_row _ _ 2 _ _ hb6)
                  exact ⟨⟨j + 1, nl + 1, c2', _, ls ++ [(j : Int)], some ⟨g', 0, none⟩, by omega, by go_num, rfl, by rw [heap_setCell_same _ _ _ _ _ _ hb6]; rfl, hO6.ex (X := fun i => i = w2.heap.size) ((Ex.refl (fun i => i = w2.heap.size) w6).setCell ⟨w2.heap.size, 2, none⟩ (.inr rfl) _) (fun b hb e => by have := (hO6.ltN b hb).1; omega), (hE2q.up (hB6.mono (by omega))).setCell (p := ⟨w2.heap.size, 2, none⟩) (Nat.le_refl _) _, by omega, show _ = _ by (have := lotsOk_snoc hlo.out (show (-1 : Int) < (j : Int) by omega)); rw [show ((j + 1 : Nat) : Int) = (j : Int) + 1 by omega]; exact this, fun _ => by omega⟩, by simp [intOf]; omega⟩
                · have hd3 : ((nl : Int) == 0) = false := by simp [hn0]
                  go_wp2_with fail
                  first
                    | exact ⟨⟨j + 1, nl, cl, _, ls, Al, by omega, by go_num, rfl, hbw, hO, hE2q, by omega, lotsOk_up hlo.out (by omega), fun e => by omega⟩, by simp [intOf]; omega⟩
                    | (go_roundw
                       case rel => exact ⟨j + 1, nl, cl, _, ls, Al, by omega, by go_num, rfl, hbw, hO, hE2q, by omega, lotsOk_up hlo.out (by omega), fun e => by omega⟩
                       case measure => simp [intOf]; omega)
              · have hd2 : ((j : Int) == (K : Int) - 1) = false := by simp [hjl]
                go_wp2_with fail
                first
                  | exact ⟨⟨j + 1, nl, cl, _, ls, Al, by omega, by go_num, rfl, hbw, hO, hE2q, by omega, lotsOk_up hlo.out (by omega), fun e => by omega⟩, by simp [intOf]; omega⟩
                  | (go_roundw
                     case rel => exact ⟨j + 1, nl, cl, _, ls, Al, by omega, by go_num, rfl, hbw, hO, hE2q, by omega, lotsOk_up hlo.out (by omega), fun e => by omega⟩
                     case measure => simp [intOf]; omega)
          · have hjK' : j = K := by omega
            have hn0 := hne hjK'
            have hRq := hR2.e hE2q
            have hEq := hEw2.trans hE2q
            have hle := hEq.le
            have hc0 : wr.cell? ⟨w2.heap.size, 0, none⟩ = some (.int .i64 xb) := cell_of_row _ _ 0 _ _ _ hbw
            have hc1 : wr.cell? ⟨w2.heap.size, 1, none⟩ = some (.int .i64 xp) := cell_of_row _ _ 1 _ _ _ hbw
            have hap : 0 < nl → ob Al ≠ ob A' := fun _ e => by
              rcases hO.form with ⟨_, h0, _⟩ | ⟨g, eg, hg, _⟩
              · omega
              · rw [eg] at e
                have := (hR2.ltN g (by rw [← e]; rfl)).2
                omega
            have HG := Lib.hid (show bidE K (xb, xp, ls) = 0 by
              have hlk : lotsOk (K : Int) (-1) ls = true := by rw [← hjK']; exact hlo.out
              have hne' : ls ≠ [] := fun e => by have := hO.1; rw [e] at this; simp at this; omega
              unfold bidE
              simp only
              rw [if_neg (by omega), if_neg (by omega), if_neg hne', if_pos hlk])
            have hp' := (⟨wf_of_i64 (by omega) (by omega), wf_of_i64 (by omega) (by omega), hO.reads, hap⟩ : (Lit.int .i64 (xb : Int)).wf = true ∧ (Lit.int .i64 (xp : Int)).wf = true ∧ Nums .i64 wr Al nl cl ls ∧ (0 < nl → ob Al ≠ ob A'))
            have hkn : k ≤ 1000000 := by omega
            clear hlo hne hnl
            go_wp2_with (at_builtin; refine wpList_appBd bidTr _ rfl _ _ rfl _ _ _ _ _ rfl hRq ((xb, xp, ls), Al, nl, cl) rfl hp' hkn hle ?_; intro g' c2 w7 hR7 hG7 hB7 hor7)
            have hE7 := hEq.up hB7
            have HQ := Lib.hid (show Gen K ((q ++ [((xb, xp, ls), Al, nl, cl)]).map Prod.fst) by
              intro z hz
              rw [List.map_append] at hz
              rcases List.mem_append.1 hz with hz | hz
              · exact hq.out z hz
              · simp at hz; subst hz; exact ⟨HG.out, hxb1.2, hxp.2⟩)
            first
              | exact ⟨⟨k + 1, c2, _, _, by omega, by go_num, rfl, hR7, hE7, HQ.out⟩, by simp [intOf]; omega⟩
              | (go_roundw
                 case rel => exact ⟨k + 1, c2, _, _, by omega, by go_num, rfl, hR7, hE7, HQ.out⟩
                 case measure => simp [intOf]; omega)
    · have hkl : q.length = k := hR1.1
      have HL := Lib.hid (show (q.map Prod.fst).length ≤ most by rw [List.length_map]; omega)
      go_wp2_with fail
      go_ret
      exact ⟨_, HL.out, hq.out, A', k, c', q, rfl, hR1, rfl, hEw1⟩
end Go.Proofs.Ytpbkfpkgbfifaaa
