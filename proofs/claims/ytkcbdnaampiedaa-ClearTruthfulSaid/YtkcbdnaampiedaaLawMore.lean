/- The walk of ClearMore. -/
import Derived.Test.YtkcbdnaampiedaaKS
namespace Go.Proofs.Ytkcbdnaampiedaa
open Go.RowKit

theorem BRow.sub {T : TypeId} {w : World} {base : Nat} {A : Option Addr} {n c : Nat} {q : List (Bd × Sl)} (h : BRow T w base A n c q) : ∀ p ∈ q, 0 < p.2.2.1 → ∀ b, ob p.2.1 = some b → b < w.heap.size := fun p hp h0 b hb => by
  obtain ⟨b', o, e, hlt, _⟩ := (h.2.2 p hp).2.2.1.at_ h0
  rw [e] at hb
  have : b' = b := by simpa [ob] using hb
  omega
theorem raise_valid {K : Int} {l : List Bd} (h : Gen K l) {i : Nat} {d : Int} (h0 : 0 ≤ d) (h1 : d < 20) : Gen K l → validS K l = 0 → validS K (raiseL l i d) = 0 := fun hg hv => by
  unfold validS at hv ⊢
  rw [raise_len]
  split at hv
  · omega
  · rename_i hK
    rw [if_neg hK]
    split at hv
    · omega
    · rename_i hl
      rw [if_neg hl]
      have key : ∀ l' : List Bd, (∀ x ∈ l', bidE K x = 0) → validF K l' = 0 := fun l' h' => by
        induction l' with
        | nil => rfl
        | cons y r ih =>
          unfold validF
          rw [if_pos (h' y List.mem_cons_self)]
          exact ih fun z hz => h' z (List.mem_cons_of_mem _ hz)
      refine key _ fun x hx => ?_
      unfold raiseL at hx
      split at hx
      · rename_i y hy
        rcases List.mem_or_eq_of_mem_set hx with hx | hx
        · exact (h x hx).1
        · have hy' := h y (List.mem_of_getElem? hy)
          have hb := bidE_ok hy'.1
          rw [hx]
          have e := hy'.1
          unfold bidE at e ⊢
          simp only
          split at e
          · omega
          · rename_i c1
            rw [if_neg c1]
            split at e
            · omega
            · rw [if_neg (by omega)]
              exact e
      · exact (h x hx).1

set_option maxHeartbeats 8000000 in
set_option maxRecDepth 100000 in
theorem clearMore_w (N which by_ : Int) (A : Option Addr) (n c : Nat) (l : List Int) (w : World) (h : Nums .i64 w A n c l) (hN1 : -9223372036854775808 ≤ N) (hN2 : N ≤ 9223372036854775807) (hw1 : -9223372036854775808 ≤ which) (hw2 : which ≤ 9223372036854775807) (hb1 : -9223372036854775808 ≤ by_) (hb2 : by_ ≤ 9223372036854775807) :
    Calls Try.prog 6 #[.int .i64 N, .slice A n c, .int .i64 which, .int .i64 by_] w (RetK w true) := by
  have hr := aroN_range N (m := 8) (by omega)
  have HL := Lib.hid (lots27_c N w hN1 hN2)
  obtain ⟨K, hK⟩ : ∃ K : Nat, 1 + aroN N 8 = K := ⟨(1 + aroN N 8).toNat, by omega⟩
  rw [hK] at HL
  have hK1 : 1 ≤ K := by omega
  have hK8 : K ≤ 8 := by omega
  clear hK hr
  have HB := Lib.hid (bids27_c K 9 A n c l w h hK1 hK8 (by omega))
  go_enter Try.func6, Try.ntmps6
  go_wp2_with fail
  refine HL.out.mono ?_
  rintro e w' ⟨rfl, rfl⟩
  go_wp2_with fail
  refine HB.out.mono ?_
  rintro e w1 ⟨lb, hlb, hgen, A1, n1, c1, q1, rfl, hR1, hq1, hE1⟩
  have hn1 : n1 ≤ 9 := by rw [← hR1.1, ← List.length_map (f := Prod.fst), hq1]; exact hlb
  have hbd1 := hR1.bids
  rw [hq1] at hbd1
  have HGEN := Lib.hid hgen
  have HLB := Lib.hid hlb
  clear hq1 hgen hlb hR1
  go_wp2_with fail
  refine (given_c _ _ _ _ _ hbd1 (by omega)).mono ?_
  rintro e w2 ⟨A2, n2, c2, q2, rfl, hR2, hq2, hE2⟩
  have HN2 := Lib.hid (show n2 = lb.length by rw [← hq2, List.length_map, hR2.1])
  have hn9 : n2 ≤ 9 := by have := HN2.out; have := HLB.out; omega
  have hEw2 := hE1.trans hE2
  clear hE1 hbd1 hn1 HL HB
  have hbd2 := hR2.bids
  rw [hq2] at hbd2
  have HQ2 := Lib.hid hq2
  clear hq2
  have HVAL := Lib.hid (gen_valid HGEN.out (by omega) (by omega) (by have := HLB.out; omega))
  by_cases hn0 : n2 = 0
  · have hz : ((n2 : Int) == 0) = true := by simp [hn0]
    go_wp2_with fail
    refine (lives28_c _).mono ?_
    rintro e w3 ⟨rfl, hE3⟩
    go_wp2_with fail
    go_ret
    exact ⟨rfl, hEw2.trans hE3⟩
  · have hz : ((n2 : Int) == 0) = false := by simp [hn0]
    obtain ⟨g2, rfl⟩ : ∃ g2, A2 = some ⟨g2, 0, none⟩ := by
      rcases hR2.2.1.2 with ⟨hv, h0⟩ | ⟨g, cap, cur, hv, _⟩
      · exact absurd h0 hn0
      · injection hv with hv; exact ⟨g, hv⟩
    have hcap2 := hbd2.cap
    have hvt : validS (K : Int) (lb.take (n2 - 1)) = 0 := gen_valid (fun x hx => HGEN.out x (List.mem_of_mem_take hx)) (by omega) (by omega) (by rw [List.length_take]; have := HLB.out; omega)
    have hpx : ∀ x ∈ lb, 0 ≤ x.2.1 := fun x hx => by have := bidE_ok (HGEN.out x hx).1; omega
    have HV1 := Lib.hid (drop_best hpx (n2 - 1))
    have HBR := Lib.hid (bestS_range (l := lb) (by have := HLB.out; omega) (pr_of_valid HVAL.out))
    have HBest := Lib.hid (fun W hE => cBest_c (K : Int) _ _ _ _ W (hbd2.e hE) (by omega) (by omega))
    rw [show bestF (K : Int) lb = ((bestS lb).1, (bestS lb).2, 0) by rw [bestF, if_pos HVAL.out]] at HBest
    have HBes2 := Lib.hid (fun W hE => cBest_c (K : Int) _ _ _ _ W ((hbd2.take (m := n2 - 1) (by omega)).e hE) (by omega) (by omega))
    rw [show bestF (K : Int) (lb.take (n2 - 1)) = ((bestS (lb.take (n2 - 1))).1, (bestS (lb.take (n2 - 1))).2, 0) by rw [bestF, if_pos hvt]] at HBes2
    obtain ⟨v0, hv0⟩ : ∃ v0, (bestS lb).2 = v0 := ⟨_, rfl⟩
    obtain ⟨u0, hu0⟩ : ∃ u0, (bestS (lb.take (n2 - 1))).2 = u0 := ⟨_, rfl⟩
    rw [hv0] at HBest HV1 HBR
    rw [hu0] at HBes2 HV1
    have HV0 := Lib.hid hv0
    clear hvt hpx hv0 hu0
    go_wp2_with fail
    refine (HBest.out _ (E.refl _)).mono ?_
    rintro e w3 ⟨A3, n3, c3, rfl, _, hE3⟩
    go_wp2_with fail
    refine (HBes2.out _ hE3).mono ?_
    rintro e w4 ⟨A4, n4, c4, rfl, _, hE4⟩
    have hE24 := hE3.trans hE4
    have hR4 := hR2.e hE24
    have hEw4 := hEw2.trans hE24
    have hle4 := hEw4.le
    have hsub := hR4.sub
    clear HBest HBes2 hE3 hE4 hR2 hE24 hbd2
    have HAr := Lib.hid (fun W => around1_c which n2 W hw1 hw2 (by omega) (by omega))
    have HAb := Lib.hid (fun W => around1_c by_ 20 W hb1 hb2 (by omega) (by omega))
    have hri := aroN_range which (m := (n2 : Int)) (by omega)
    have hrb := aroN_range by_ (m := 20) (by omega)
    obtain ⟨iN, hiN⟩ : ∃ iN : Nat, aroN which (n2 : Int) = iN := ⟨(aroN which n2).toNat, by omega⟩
    obtain ⟨d, hd⟩ : ∃ d, aroN by_ 20 = d := ⟨_, rfl⟩
    rw [hiN] at hri HAr
    rw [hd] at hrb HAb
    obtain ⟨d0, d1⟩ := hrb
    have hin : iN < n2 := by omega
    clear hri hiN hd hw1 hw2 hb1 hb2
    go_wp2_with (at_builtin; refine wpList_cpBd bidT _ rfl _ _ rfl _ _ _ _ _ rfl rfl hR4 (by omega) hsub ?_; intro g5 c5 w5 hR5 hE5 hg5)
    refine (HAr.out _).mono ?_
    rintro e w' ⟨rfl, rfl⟩
    go_wp2_with fail
    refine (HAb.out _).mono ?_
    rintro e w' ⟨rfl, rfl⟩
    have hEw5 := hEw4.trans hE5
    obtain ⟨p, hp⟩ : ∃ p, q2[iN]? = some p := ⟨q2[iN]'(by rw [hR5.1]; exact hin), List.getElem?_eq_getElem _⟩
    have hpl : lb[iN]? = some p.1 := by rw [← HQ2.out, List.getElem?_map, hp]; rfl
    have hpg := HGEN.out p.1 (List.mem_of_getElem? hpl)
    have hpe := bidE_ok hpg.1
    have hset := hR5.price hp (p.1.2.1 + d) (wf_of_i64 (by omega) (by omega))
    have hqm : (q2.set iN ((p.1.1, p.1.2.1 + d, p.1.2.2), p.2)).map Prod.fst = raiseL lb iN d := by rw [List.map_set, HQ2.out, raiseL, hpl]
    have hb6 := hset.bids
    rw [hqm] at hb6
    have hvr : validS (K : Int) (raiseL lb iN d) = 0 := raise_valid HGEN.out d0 d1 HGEN.out HVAL.out
    have HB6 := Lib.hid (cBest_c (K : Int) _ _ _ _ _ hb6 (by omega) (by omega))
    rw [show bestF (K : Int) (raiseL lb iN d) = ((bestS (raiseL lb iN d)).1, (bestS (raiseL lb iN d)).2, 0) by rw [bestF, if_pos hvr]] at HB6
    have HRB := Lib.hid (raise_best (l := lb) (i := iN) d0 (fun i => (pr_of_valid HVAL.out i).1))
    obtain ⟨x0, hx0⟩ : ∃ x0, (bestS (raiseL lb iN d)).2 = x0 := ⟨_, rfl⟩
    rw [hx0] at HB6 HRB
    rw [HV0.out] at HRB
    obtain ⟨rb1, rb2⟩ := HRB.out
    obtain ⟨br0, br1, _⟩ := HBR.out
    have hv1 := HV1.out
    have c1 : w5.cell? ⟨g5, iN * 3 + 1, none⟩ = some (.int .i64 p.1.2.1) := by rw [World.ownsRow.cellAt hR5.2.1 (iN * 3 + 1) (by omega)]; exact (flat3_get q2 iN p hp).2.1
    obtain ⟨cs, hcs⟩ : ∃ cs, w5.heap[g5]? = some (.cells cs 45 (0, 0)) := by
      rcases hR5.2.1.2 with ⟨hv, _⟩ | ⟨g, cap, cur, hv, _, hh, _⟩
      · injection hv with hv; cases hv
      · injection hv with hv; injection hv with hv; injection hv with hv; subst hv; exact ⟨_, hh⟩
    have f1 := frozen_of_row _ _ (iN * 3 + 1) _ _ hcs
    have hp1 : 1 ≤ p.1.2.1 := hpe.2.1
    have hp2 : p.1.2.1 ≤ 450 := hpg.2.2
    have hinI : (iN : Int) < (n2 : Int) := by omega
    have hE6 := hEw5.setCell (p := ⟨g5, iN * 3 + 1, none⟩) (by show w.heap.size ≤ g5; omega) (.int .i64 (p.1.2.1 + d))
    obtain ⟨pv, hpv⟩ : ∃ pv, p.1.2.1 = pv := ⟨_, rfl⟩
    rw [hpv] at hp1 hp2 c1 HB6 hE6
    clear hpg hpe hset hqm hb6 hvr hx0 hcs hp hpl hpv HQ2 hR5 hR4 hsub HGEN HVAL
    go_wp2_with fail
    refine HB6.out.mono ?_
    rintro e w6 ⟨A6, n6, c6, rfl, _, hE7⟩
    have hEw6 := hE6.trans hE7
    clear HB6 hE6 hE7 c1 f1
    go_wp2_with fail
    refine (lives28_c _).mono ?_
    rintro e w8 ⟨rfl, hE8⟩
    go_wp2_with fail
    go_ret
    exact ⟨rfl, hEw6.trans hE8⟩
end Go.Proofs.Ytkcbdnaampiedaa
