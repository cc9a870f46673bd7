/- The walk of ClearTruthful. -/
import Derived.Test.YtkcbdnaampiedaaKY
import Derived.Test.YtkcbdnaampiedaaLawMore
namespace Go.Proofs.Ytkcbdnaampiedaa
open Go.RowKit

theorem wrap64_rng (x : Int) : -9223372036854775808 ≤ wrap64 x ∧ wrap64 x ≤ 9223372036854775807 := by unfold wrap64; omega
/-- the bids while the others of the bidder of i are renamed -/
def Ren (K : Int) (n i j : Nat) (b0 : Int) (q : List (Bd × Sl)) : Prop :=
  q.length = n ∧ (∀ p ∈ q, bidE K p.1 = 0 ∧ p.1.2.1 ≤ 450) ∧ (∀ p, q[i]? = some p → p.1.1 = b0) ∧ ∀ m p, m < j → m ≠ i → q[m]? = some p → p.1.1 ≠ b0
theorem bidE_re {K : Int} {x : Bd} {v : Int} (h : bidE K x = 0) (h1 : 1 ≤ v) (h2 : v ≤ 1073741824) : bidE K (v, x.2.1, x.2.2) = 0 := by
  unfold bidE at h ⊢
  simp only
  split at h
  · omega
  · rw [if_neg (by omega)]; exact h
theorem bidE_rp {K : Int} {x : Bd} {v : Int} (h : bidE K x = 0) (h1 : 1 ≤ v) (h2 : v ≤ 1099511627776) : bidE K (x.1, v, x.2.2) = 0 := by
  unfold bidE at h ⊢
  simp only
  split at h
  · omega
  · rename_i c1
    rw [if_neg c1]
    split at h
    · omega
    · rw [if_neg (by omega)]; exact h
theorem Ren.skip {K : Int} {n i j : Nat} {b0 : Int} {q : List (Bd × Sl)} (h : Ren K n i j b0 q) (hs : j = i ∨ ∃ p, q[j]? = some p ∧ p.1.1 ≠ b0) : Ren K n i (j + 1) b0 q := by
  obtain ⟨h1, h2, h3, h4⟩ := h
  refine ⟨h1, h2, h3, fun m p hm hne hp => ?_⟩
  by_cases e : m = j
  · subst e
    rcases hs with hs | ⟨p', hp', hb⟩
    · exact absurd hs hne
    · rw [hp'] at hp; injection hp with hp; subst hp; exact hb
  · exact h4 m p (by omega) hne hp
theorem Ren.turn {K : Int} {n i j : Nat} {b0 v : Int} {q : List (Bd × Sl)} {p : Bd × Sl} (h : Ren K n i j b0 q) (hp : q[j]? = some p) (hji : j ≠ i) (h1 : 7 ≤ v) (h2 : v ≤ 1000) (hb0 : b0 ≤ 6) : Ren K n i (j + 1) b0 (q.set j ((v, p.1.2.1, p.1.2.2), p.2)) := by
  obtain ⟨a1, a2, a3, a4⟩ := h
  refine ⟨by simpa using a1, fun r hr => ?_, fun r hr => ?_, fun m r hm hne hr => ?_⟩
  · rcases List.mem_or_eq_of_mem_set hr with hr | hr
    · exact a2 r hr
    · have := a2 p (List.mem_of_getElem? hp)
      subst hr
      exact ⟨bidE_re this.1 (by omega) (by omega), this.2⟩
  · rw [List.getElem?_set_ne hji] at hr
    exact a3 r hr
  · by_cases e : j = m
    · subst e
      rw [List.getElem?_set_self (List.getElem?_eq_some_iff.1 hp).1] at hr
      injection hr with hr
      subst hr
      simp only
      omega
    · rw [List.getElem?_set_ne e] at hr
      exact a4 m r (by omega) hne hr
theorem Ren.alone {K : Int} {n i : Nat} {b0 : Int} {q : List (Bd × Sl)} (h : Ren K n i n b0 q) (hi : i < n) : ∀ j, j < (q.map Prod.fst).length → ((q.map Prod.fst).getD j bd0).1 = ((q.map Prod.fst).getD i bd0).1 → j = i := by
  obtain ⟨h1, h2, h3, h4⟩ := h
  intro j hj e
  rw [List.length_map, h1] at hj
  rw [List.getD_eq_getElem?_getD, List.getD_eq_getElem?_getD, List.getElem?_map, List.getElem?_map, List.getElem?_eq_getElem (by omega), List.getElem?_eq_getElem (by omega)] at e
  simp at e
  by_cases c : j = i
  · exact c
  · exact absurd (e.trans (h3 _ (List.getElem?_eq_getElem (by omega)))) (h4 j _ hj c (List.getElem?_eq_getElem (by omega)))
theorem Ren.valid {K : Int} {n i j : Nat} {b0 : Int} {q : List (Bd × Sl)} (h : Ren K n i j b0 q) (h1 : 1 ≤ K) (h8 : K ≤ 8) (hn : n ≤ 10) : validS K (q.map Prod.fst) = 0 := by
  have key : ∀ l' : List Bd, (∀ x ∈ l', bidE K x = 0) → validF K l' = 0 := fun l' h' => by
    induction l' with
    | nil => rfl
    | cons y r ih =>
      unfold validF
      rw [if_pos (h' y List.mem_cons_self)]
      exact ih fun z hz => h' z (List.mem_cons_of_mem _ hz)
  unfold validS
  rw [if_neg (by omega), if_neg (by rw [List.length_map, h.1]; omega)]
  refine key _ fun x hx => ?_
  obtain ⟨p, hp, rfl⟩ := List.mem_map.1 hx
  exact (h.2.1 p hp).1
theorem Ren.raise {K : Int} {n i j : Nat} {b0 v : Int} {q : List (Bd × Sl)} {p : Bd × Sl} (h : Ren K n i j b0 q) (hp : q[i]? = some p) (h1 : 1 ≤ v) (h2 : v ≤ 450) : Ren K n i 0 b0 (q.set i ((p.1.1, v, p.1.2.2), p.2)) := by
  obtain ⟨a1, a2, a3, a4⟩ := h
  refine ⟨by simpa using a1, fun r hr => ?_, fun r hr => ?_, fun m r hm => absurd hm (by omega)⟩
  · rcases List.mem_or_eq_of_mem_set hr with hr | hr
    · exact a2 r hr
    · have := a2 p (List.mem_of_getElem? hp)
      subst hr
      exact ⟨bidE_rp this.1 (by omega) (by omega), h2⟩
  · rw [List.getElem?_set_self (List.getElem?_eq_some_iff.1 hp).1] at hr
    injection hr with hr
    subst hr
    exact a3 p hp

set_option maxHeartbeats 8000000 in
set_option maxRecDepth 100000 in
theorem clearTruthful_w (N which price : Int) (A : Option Addr) (n c : Nat) (l : List Int) (w : World) (h : Nums .i64 w A n c l) (hN1 : -9223372036854775808 ≤ N) (hN2 : N ≤ 9223372036854775807) (hw1 : -9223372036854775808 ≤ which) (hw2 : which ≤ 9223372036854775807) (_hb1 : -9223372036854775808 ≤ price) (_hb2 : price ≤ 9223372036854775807) :
    Calls Try.prog 5 #[.int .i64 N, .slice A n c, .int .i64 which, .int .i64 price] w (RetK w true) := by
  have hr := aroN_range N (m := 8) (by omega)
  have HL := Lib.hid (lots27_c N w hN1 hN2)
  obtain ⟨K, hK⟩ : ∃ K : Nat, 1 + aroN N 8 = K := ⟨(1 + aroN N 8).toNat, by omega⟩
  rw [hK] at HL
  have hK1 : 1 ≤ K := by omega
  have hK8 : K ≤ 8 := by omega
  clear hK hr
  have HB := Lib.hid (bids27_c K 7 A n c l w h hK1 hK8 (by omega))
  go_enter Try.func5, Try.ntmps5
  go_wp2_with fail
  refine HL.out.mono ?_
  rintro e w' ⟨rfl, rfl⟩
  go_wp2_with fail
  refine HB.out.mono ?_
  rintro e w1 ⟨lb, hlb, hgen, A1, n1, c1, q1, rfl, hR1, hq1, hE1⟩
  have hn1 : n1 ≤ 7 := by rw [← hR1.1, ← List.length_map (f := Prod.fst), hq1]; exact hlb
  have hbd1 := hR1.bids
  rw [hq1] at hbd1
  have HGEN := Lib.hid hgen
  have HLB := Lib.hid hlb
  clear hq1 hgen hlb hR1
  go_wp2_with fail
  refine (given_c _ _ _ _ _ hbd1 (by omega)).mono ?_
  rintro e w2 ⟨A2, n2, c2, q2, rfl, hR2, hq2, hE2⟩
  have HN2 := Lib.hid (show n2 = lb.length by rw [← hq2, List.length_map, hR2.1])
  have hn7 : n2 ≤ 7 := by have := HN2.out; have := HLB.out; omega
  have hEw1 := hE1
  have hEw2 := hE1.trans hE2
  clear hE1 hbd1 hn1 HL HB
  have HQ2 := Lib.hid hq2
  clear hq2
  by_cases hn0 : n2 = 0
  · have hz : ((n2 : Int) == 0) = true := by simp [hn0]
    go_wp2_with fail
    refine (lives28_c _).mono ?_
    rintro e w3 ⟨rfl, hE3⟩
    go_wp2_with fail
    go_ret
    exact ⟨rfl, hEw2.trans hE3⟩
  · have hz : ((n2 : Int) == 0) = false := by simp [hn0]
    obtain ⟨g2, rfl⟩ : ∃ g2, A2 = some ⟨g2, 0, none⟩ := by
      rcases hR2.2.1.2 with ⟨hv, h0⟩ | ⟨g, cap, cur, hv, _⟩
      · exact absurd h0 hn0
      · injection hv with hv; exact ⟨g, hv⟩
    have HAr := Lib.hid (fun W => around1_c which n2 W hw1 hw2 (by omega) (by omega))
    have hri := aroN_range which (m := (n2 : Int)) (by omega)
    obtain ⟨iN, hiN⟩ : ∃ iN : Nat, aroN which (n2 : Int) = iN := ⟨(aroN which n2).toNat, by omega⟩
    rw [hiN] at hri HAr
    have hin : iN < n2 := by omega
    clear hri hiN hw1 hw2
    go_wp2_with fail
    refine (HAr.out _).mono ?_
    rintro e w' ⟨rfl, rfl⟩
    go_wp2_with fail
    obtain ⟨p0, hp0⟩ : ∃ p, q2[iN]? = some p := ⟨q2[iN]'(by rw [hR2.1]; exact hin), List.getElem?_eq_getElem _⟩
    obtain ⟨b0, hb0⟩ : ∃ b0, p0.1.1 = b0 := ⟨_, rfl⟩
    have hgen2 : ∀ p ∈ q2, bidE K p.1 = 0 ∧ p.1.1 ≤ 6 ∧ p.1.2.1 ≤ 450 := fun p hp => HGEN.out p.1 (by rw [← HQ2.out]; exact List.mem_map_of_mem hp)
    have HB0 := Lib.hid (show 1 ≤ b0 ∧ b0 ≤ 6 by rw [← hb0]; exact ⟨(bidE_ok (hgen2 p0 (List.mem_of_getElem? hp0)).1).1, (hgen2 p0 (List.mem_of_getElem? hp0)).2.1⟩)
    have HREN := Lib.hid (show Ren K n2 iN 0 b0 q2 from ⟨hR2.1, fun p hp => ⟨(hgen2 p hp).1, (hgen2 p hp).2.2⟩, fun p hp => by rw [hp0] at hp; injection hp with hp; subst hp; exact hb0, fun m p hm => absurd hm (by omega)⟩)
    have hbase : w.heap.size ≤ w1.heap.size := hEw1.le
    have hg2 : w1.heap.size ≤ g2 := (hR2.ltN g2 rfl).1
    have hwg : w.heap.size ≤ g2 := Nat.le_trans hbase hg2
    have hinI : (iN : Int) < (n2 : Int) := by omega
    clear hgen2 hp0 hb0 HQ2 HGEN HN2 HLB
    go_loopw [12] (fun ti wr => ∃ (j : Nat) (q : List (Bd × Sl)), j ≤ n2 ∧ ti = .int .i64 j ∧ BRow 45 wr w1.heap.size (some ⟨g2, 0, none⟩) n2 c2 q ∧ E w wr ∧ Hid (Ren K n2 iN j b0 q)) (fun ti _ => n2 - (intOf ti).toNat)
    case atStart => exact ⟨0, q2, Nat.zero_le _, rfl, hR2, hEw2, HREN.out⟩
    case round =>
      obtain ⟨j, q, hj, rfl, hR, hE, hren⟩ := hrel
      clear HREN hR2 hEw2
      by_cases hlt : (j : Int) < (n2 : Int)
      · obtain ⟨pj, hpj⟩ : ∃ p, q[j]? = some p := ⟨q[j]'(by rw [hR.1]; omega), List.getElem?_eq_getElem _⟩
        obtain ⟨pi, hpi⟩ : ∃ p, q[iN]? = some p := ⟨q[iN]'(by rw [hR.1]; omega), List.getElem?_eq_getElem _⟩
        have hpib : pi.1.1 = b0 := hren.out.2.2.1 pi hpi
        have cj : wr.cell? ⟨g2, j * 3, none⟩ = some (.int .i64 pj.1.1) := by rw [World.ownsRow.cellAt hR.2.1 (j * 3) (by omega)]; exact (flat3_get q j pj hpj).1
        have ci : wr.cell? ⟨g2, iN * 3, none⟩ = some (.int .i64 b0) := by rw [World.ownsRow.cellAt hR.2.1 (iN * 3) (by omega), ← hpib]; exact (flat3_get q iN pi hpi).1
        have HPJ := Lib.hid hpj
        clear hpj hpi hpib
        by_cases hji : j = iN
        · have hd : ((j : Int) != (iN : Int)) = false := by simp [hji]
          have HN := Lib.hid (hren.out.skip (.inl hji))
          clear hren hji
          go_wp2_with fail
          go_quiet (fail)
          go_wp2_with fail
          exact ⟨⟨j + 1, q, by omega, by go_num, hR.e ((E.refl wr).drewN _), hE.drewN _, HN.out⟩, by simp [intOf]; omega⟩
        · have hd : ((j : Int) != (iN : Int)) = true := by simp; omega
          by_cases hbb : pj.1.1 = b0
          · have hd2 : (pj.1.1 == b0) = true := by simp [hbb]
            have HN := Lib.hid (hren.out.turn HPJ.out hji (v := 100 + (j : Int)) (by omega) (by omega) HB0.out.2)
            have hR' := (hR.e ((E.refl wr).drewN 0)).bidder HPJ.out (100 + (j : Int)) (wf_of_i64 (by omega) (by omega))
            obtain ⟨cs, hcs⟩ : ∃ cs, wr.heap[g2]? = some (.cells cs 45 (0, 0)) := by
              rcases hR.2.1.2 with ⟨hv, _⟩ | ⟨g, cap, cur, hv, _, hh, _⟩
              · injection hv with hv; cases hv
              · injection hv with hv; injection hv with hv; injection hv with hv; subst hv; exact ⟨_, hh⟩
            have f1 := frozen_of_row _ _ (j * 3) _ _ hcs
            clear hren hji hcs hR' hbb
            go_wp2_with fail
            go_quiet (fail)
            go_wp2_with fail
            exact ⟨⟨j + 1, _, by omega, by go_num, (hR.e ((E.refl wr).drewN _)).bidder HPJ.out (100 + (j : Int)) (wf_of_i64 (by omega) (by omega)), (hE.drewN _).setCell (p := ⟨g2, j * 3, none⟩) hwg _, HN.out⟩, by simp [intOf]; omega⟩
          · have hd2 : (pj.1.1 == b0) = false := by simp [hbb]
            have HN := Lib.hid (hren.out.skip (.inr ⟨pj, HPJ.out, hbb⟩))
            clear hren hji hbb
            go_wp2_with fail
            go_quiet (fail)
            go_wp2_with fail
            exact ⟨⟨j + 1, q, by omega, by go_num, hR.e ((E.refl wr).drewN _), hE.drewN _, HN.out⟩, by simp [intOf]; omega⟩
      · have hjn : j = n2 := by omega
        subst hjn
        obtain ⟨pi, hpi⟩ : ∃ p, q[iN]? = some p := ⟨q[iN]'(by rw [hR.1]; omega), List.getElem?_eq_getElem _⟩
        have hpe := bidE_ok (hren.out.2.1 pi (List.mem_of_getElem? hpi)).1
        have hp450 := (hren.out.2.1 pi (List.mem_of_getElem? hpi)).2
        have ci : wr.cell? ⟨g2, iN * 3 + 1, none⟩ = some (.int .i64 pi.1.2.1) := by rw [World.ownsRow.cellAt hR.2.1 (iN * 3 + 1) (by omega)]; exact (flat3_get q iN pi hpi).2.1
        have hpr : pr (q.map Prod.fst) iN = pi.1.2.1 := by rw [pr, List.getD_eq_getElem?_getD, List.getElem?_map, hpi]; rfl
        have HPI := Lib.hid hpi
        have HV := Lib.hid (hren.out.valid (by omega) (by omega) (by omega))
        obtain ⟨pv, hpv⟩ : ∃ pv, pi.1.2.1 = pv := ⟨_, rfl⟩
        rw [hpv] at hpe hp450 ci hpr
        have HPR := Lib.hid hpr
        have hpv1 := hpe.2.1
        obtain ⟨G0, hG0⟩ : ∃ G0, gainS (q.map Prod.fst) iN pv = G0 := ⟨_, rfl⟩
        have HGA := Lib.hid (show Calls Try.prog 23 #[.int .i64 K, .slice (some ⟨g2, 0, none⟩) j c2, .int .i64 iN, .int .i64 pv] wr fun e w' => e = .returned (.int .i64 G0) ∧ E wr w' by
          have := gain_c K (some ⟨g2, 0, none⟩) j c2 (q.map Prod.fst) iN pv wr hR.bids (by omega) (by omega) HV.out hin (by omega) (by omega)
          rw [← hG0]; exact this)
        have HG0 := Lib.hid hG0
        have HPV := Lib.hid hpv
        clear hpi hpe hpr hpv hG0
        go_wp2_with fail
        refine HGA.out.mono ?_
        rintro e w3 ⟨rfl, hE3⟩
        have hEw3 := hE.trans hE3
        have hR3 := hR.e hE3
        clear HGA hE hR hE3 ci
        go_wp2_with fail
        go_loopw [15] (fun ti wr2 => ∃ (d : Nat), d ≤ 4 ∧ ti = .int .i64 d ∧ E w3 wr2) (fun ti _ => 4 - (intOf ti).toNat)
        case atStart => exact ⟨0, Nat.zero_le _, rfl, E.refl _⟩
        case round =>
          obtain ⟨d, hd, rfl, hE4⟩ := hrel
          by_cases hd4 : (d : Int) < 4
          · have hR4 := hR3.e hE4
            have hsub := hR4.sub
            have hEw4 := hEw3.trans hE4
            have hle4 := hEw4.le
            go_wp2_with (at_builtin; refine wpList_cpBd bidT _ rfl _ _ rfl _ _ _ _ _ rfl rfl hR4 (by omega) hsub ?_; intro g5 c5 w5 hR5 hE5 hg5)
            obtain ⟨pw, hpw, hpw1, hpw2⟩ : ∃ pw, wrap64 (price + 17 * (d : Int)) = pw ∧ -9223372036854775808 ≤ pw ∧ pw ≤ 9223372036854775807 := ⟨_, rfl, (wrap64_rng _).1, (wrap64_rng _).2⟩
            rw [hpw]
            have hrb := aroN_range pw (m := 40) (by omega)
            have HAb := Lib.hid (around1_c pw 40 w5 hpw1 hpw2 (by omega) (by omega))
            obtain ⟨np, hnp⟩ : ∃ np, aroN pw 40 = np := ⟨_, rfl⟩
            rw [hnp] at hrb HAb
            obtain ⟨np0, np1⟩ := hrb
            have hEw5 := hEw4.trans hE5
            have hset := hR5.price HPI.out (1 + np) (wf_of_i64 (by omega) (by omega))
            have hqm : (q.set iN ((pi.1.1, 1 + np, pi.1.2.2), pi.2)).map Prod.fst = raiseL (q.map Prod.fst) iN (1 + np - pv) := by
              rw [List.map_set, raiseL, List.getElem?_map, HPI.out]
              simp only [Option.map_some]
              rw [HPV.out, show pv + (1 + np - pv) = 1 + np by omega]
            have hval := (hren.out.raise HPI.out (v := 1 + np) (by omega) (by omega)).valid (by omega) (by omega) (by omega)
            have hga := gain_c K (some ⟨g5, 0, none⟩) j c5 _ iN pv _ hset.bids (by omega) (by omega) hval hin (by omega) (by omega)
            rw [hqm] at hga hval
            have htr : gainS (raiseL (q.map Prod.fst) iN (1 + np - pv)) iN pv ≤ G0 := by
              have := truth (l := q.map Prod.fst) (i := iN) (d := 1 + np - pv) (by rw [List.length_map, hren.out.1]; exact hin) (fun m => (pr_of_valid HV.out m).1) (fun m => (pr_of_valid hval m).1) (hren.out.alone hin)
              rw [HPR.out, HG0.out] at this
              exact this
            obtain ⟨G1, hG1⟩ : ∃ G1, gainS (raiseL (q.map Prod.fst) iN (1 + np - pv)) iN pv = G1 := ⟨_, rfl⟩
            rw [hG1] at htr
            have HGA := Lib.hid (show Calls Try.prog 23 #[.int .i64 K, .slice (some ⟨g5, 0, none⟩) j c5, .int .i64 iN, .int .i64 pv] (w5.setCell ⟨g5, iN * 3 + 1, none⟩ (.int .i64 (1 + np))) fun e w' => e = .returned (.int .i64 G1) ∧ E (w5.setCell ⟨g5, iN * 3 + 1, none⟩ (.int .i64 (1 + np))) w' by
              rw [← hG1]; exact hga)
            obtain ⟨cs, hcs⟩ : ∃ cs, w5.heap[g5]? = some (.cells cs 45 (0, 0)) := by
              rcases hR5.2.1.2 with ⟨hv, _⟩ | ⟨g, cap, cur, hv, _, hh, _⟩
              · injection hv with hv; cases hv
              · injection hv with hv; injection hv with hv; injection hv with hv; subst hv; exact ⟨_, hh⟩
            have f1 := frozen_of_row _ _ (iN * 3 + 1) _ _ hcs
            obtain ⟨u1, hu1⟩ : ∃ u1, w5.cell? ⟨g5, iN * 3 + 1, none⟩ = some u1 := ⟨_, (World.ownsRow.cellAt hR5.2.1 (iN * 3 + 1) (by omega)).trans (flat3_get q iN pi HPI.out).2.1⟩
            have hE35 := (hE4.trans hE5).setCell (p := ⟨g5, iN * 3 + 1, none⟩) (by show w3.heap.size ≤ g5; have := hE4.le; omega) (.int .i64 (1 + np))
            have hG : ¬ G0 < G1 := by omega
            clear hset hqm hval hga hG1 hcs hpw hpw1 hpw2 hnp hR5 hsub hR4 htr
            refine HAb.out.mono ?_
            rintro e w' ⟨rfl, rfl⟩
            go_wp2_with fail
            refine HGA.out.mono ?_
            rintro e w6 ⟨rfl, hE6⟩
            go_wp2_with fail
            exact ⟨⟨d + 1, by omega, by go_num, hE35.trans hE6⟩, by simp [intOf]; omega⟩
          · go_wp2_with fail
            refine (lives28_c _).mono ?_
            rintro e w8 ⟨rfl, hE8⟩
            go_wp2_with fail
            go_ret
            exact ⟨rfl, (hEw3.trans hE4).trans hE8⟩
end Go.Proofs.Ytkcbdnaampiedaa
