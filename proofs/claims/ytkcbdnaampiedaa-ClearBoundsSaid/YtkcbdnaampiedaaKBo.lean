/- The model's Bound answers as the package's; the prices of lots. -/
import Derived.Test.YtkcbdnaampiedaaKSu
namespace Go.Proofs.Ytkcbdnaampiedaa
open Go.RowKit

def fsum (ps : List Int) (l l' : List Bd) : Int := ((firsts l').map (sur ps l)).sum
theorem fsum_snoc (ps : List Int) (l l' : List Bd) (x : Bd) : fsum ps l (l' ++ [x]) = fsum ps l l' + if x.1 ∈ firsts l' then 0 else sur ps l x.1 := by
  unfold fsum
  rw [firsts_snoc, fstep]
  split
  · omega
  · rw [List.map_append, List.sum_append]; simp
theorem fsum_range {ps : List Int} {l : List Bd} (h : ∀ x ∈ l, ownS ps x ≤ 1099511627776) : ∀ l' : List Bd, 0 ≤ fsum ps l l' ∧ fsum ps l l' ≤ l'.length * 1099511627776 := fun l' => by
  have key : ∀ k, k ≤ l'.length → 0 ≤ fsum ps l (l'.take k) ∧ fsum ps l (l'.take k) ≤ k * 1099511627776 := fun k => by
    induction k with
    | zero => intro _; simp [fsum, firsts]
    | succ k ih =>
      intro hk
      have := ih (by omega)
      rw [List.take_add_one, List.getElem?_eq_getElem (by omega)]
      show 0 ≤ fsum ps l (l'.take k ++ [l'[k]]) ∧ fsum ps l (l'.take k ++ [l'[k]]) ≤ _
      rw [fsum_snoc]
      have hs := sur_range (ps := ps) (b := l'[k].1) l 0 (by omega) (by omega) h
      unfold sur
      split <;> omega
  have := key l'.length (Nat.le_refl _)
  rwa [List.take_length] at this

set_option maxHeartbeats 4000000 in
set_option maxRecDepth 100000 in
theorem rBound_c (N : Int) (A : Option Addr) (n c : Nat) (l : List Bd) (Ap : Option Addr) (np cp : Nat) (ps : List Int) (w : World) (h : BidsAt w A n c l) (hps : Nums .i64 w Ap np cp ps) (hN1 : -9223372036854775808 ≤ N) (hN2 : N ≤ 9223372036854775807) :
    Calls Try.prog 22 #[.int .i64 N, .slice A n c, .slice Ap np cp] w fun e w' => e = .returned (.tuple #[.int .i64 (boundF N l ps).1, .int .i64 (boundF N l ps).2]) ∧ E w w' := by
  have hl := h.len
  have hm := h.n63
  have hpl := hps.len
  have HV := Lib.hid (refValid_c N A n c l w h hN1 hN2)
  by_cases hv : validS N l = 0
  · obtain ⟨hl10, _, hNr1, hNr2⟩ := validS_ok hv
    rw [hv] at HV
    have HVV := Lib.hid hv
    by_cases hlen : (np : Int) = N
    · obtain ⟨fin, hfin⟩ : ∃ fin, boundF N l ps = fin := ⟨_, rfl⟩
      have HFIN := Lib.hid (show (if ps.all okU then (boundS ps l, 0) else (0, 1)) = fin by rw [← hfin, boundF, if_pos hv, if_pos (show (ps.length : Int) = N by omega)])
      rw [hfin]
      obtain ⟨f1, f2⟩ := fin
      simp only
      have hdl : ((np : Int) != N) = false := by simp [hlen]
      have HLEN := Lib.hid hlen
      clear hfin hv hlen
      go_enter Try.func22, Try.ntmps22
      go_wp2_with fail
      refine HV.out.mono ?_
      rintro e w1 ⟨rfl, hE1⟩
      go_wp2_with fail
      go_loopw [9, 10] (fun ts ti wr => ∃ (i : Nat) (s : Int), i ≤ np ∧ ti = .int .i64 i ∧ ts = .int .i64 s ∧ Q w1 wr ∧ 0 ≤ s ∧ s ≤ 8796093022208 ∧ Hid ((ps.drop i).all okU = ps.all okU ∧ s = (ps.take i).sum ∧ (∀ x ∈ ps.take i, 0 ≤ x ∧ x ≤ 1099511627776))) (fun _ ti _ => np - (intOf ti).toNat)
      case atStart => exact ⟨0, 0, Nat.zero_le _, rfl, rfl, Q.refl _, by omega, by omega, rfl, by simp, by simp⟩
      case round =>
        obtain ⟨i, s, hi, rfl, rfl, hq, hs0, hs1, hal⟩ := hrel
        by_cases hil : (i : Int) < N
        · obtain ⟨b, o, p, rfl, hb, hp, hwp, hcp⟩ := ((hps.e hE1).q hq).get (i := i) (by have := HLEN.out; omega)
          have hpr := wf_i64 hwp
          have HA := Lib.hid (show (okU p && (ps.drop (i + 1)).all okU) = ps.all okU by rw [← hal.out.1, all_drop hp])
          have hiI : (i : Int) < (np : Int) := by have := HLEN.out; omega
          by_cases p0 : p < 0
          · have HF := Lib.hid (show (f1, f2) = (0, 1) by rw [← HFIN.out, ← HA.out, okU_neg p0]; rfl)
            clear hal hp hwp
            go_wp2_with fail
            try go_quiet (fail)
            all_goals go_wp2_with fail
            go_ret2
            have := HF.out
            injection this with e1 e2
            subst e1 e2
            first
              | exact ⟨rfl, hE1.q hq⟩
              | exact ⟨rfl, (hE1.q hq).drewN _⟩
          by_cases p1 : 1099511627776 < p
          · have HF := Lib.hid (show (f1, f2) = (0, 1) by rw [← HFIN.out, ← HA.out, okU_big p1]; rfl)
            clear hal hp hwp
            go_wp2_with fail
            have d0 : decide (p < 0) = false := by simp; omega
            try go_quiet (fail)
            all_goals go_wp2_with fail
            go_ret2
            have := HF.out
            injection this with e1 e2
            subst e1 e2
            first
              | exact ⟨rfl, hE1.q hq⟩
              | exact ⟨rfl, (hE1.q hq).drewN _⟩
          · have hok : okU p = true := okU_iff.2 ⟨by omega, by omega⟩
            have hmem : ∀ x ∈ ps.take (i + 1), 0 ≤ x ∧ x ≤ 1099511627776 := fun x hx => by
              rw [List.take_add_one, hp] at hx
              rcases List.mem_append.1 hx with hx | hx
              · exact hal.out.2.2 x hx
              · simp at hx; subst hx; omega
            have hsum : s + p = (ps.take (i + 1)).sum := by rw [List.take_add_one, hp, List.sum_append, hal.out.2.1]; simp
            have hsr := sum_range hmem
            have hln : (ps.take (i + 1)).length ≤ 8 := by rw [List.length_take]; have := HLEN.out; omega
            have hs2 : s + p ≤ 8796093022208 := by omega
            have HN := Lib.hid (show (ps.drop (i + 1)).all okU = ps.all okU ∧ s + p = (ps.take (i + 1)).sum ∧ (∀ x ∈ ps.take (i + 1), 0 ≤ x ∧ x ≤ 1099511627776) from ⟨by rw [← HA.out, hok, Bool.true_and], hsum, hmem⟩)
            clear hal hp hwp hok hmem hsum hsr hln
            go_wp2_with fail
            have d0 : decide (p < 0) = false := by simp; omega
            have d1 : decide (1099511627776 < p) = false := by simp; omega
            try go_quiet (fail)
            all_goals go_wp2_with fail
            first
              | exact ⟨⟨i + 1, s + p, by omega, by go_num, rfl, hq, by omega, hs2, HN.out⟩, by simp [intOf]; omega⟩
              | exact ⟨⟨i + 1, s + p, by omega, by go_num, rfl, hq.drewN _, by omega, hs2, HN.out⟩, by simp [intOf]; omega⟩
        · have hall : ps.all okU = true := by rw [← hal.out.1, drop_end hpl (by have := HLEN.out; omega)]; rfl
          have HPS := Lib.hid (show s = ps.sum by rw [hal.out.2.1, List.take_of_length_le (by have := HLEN.out; omega)])
          have hpr : ∀ x ∈ ps, 0 ≤ x ∧ x ≤ 1099511627776 := fun x hx => hal.out.2.2 x (by rw [List.take_of_length_le (by have := HLEN.out; omega)]; exact hx)
          have HF := Lib.hid (show f1 = s + fsum ps l l ∧ f2 = 0 by
            have := HFIN.out
            rw [hall, if_pos rfl, boundS_eq] at this
            injection this with e1 e2
            exact ⟨by rw [← e1, HPS.out]; rfl, e2.symm⟩)
          have HSU := Lib.hid (fun bd W hW => surplus_c N A n c l bd Ap np cp ps W (h.e hW) (hps.e hW) HVV.out HLEN.out hpr)
          have HSR := Lib.hid (fun bd => sur_range (ps := ps) (b := bd) l 0 (by omega) (by omega) (fun x hx => (own_range HVV.out hpr hx).1))
          have HFR := Lib.hid (fun k => fsum_range (ps := ps) (l := l) (fun x hx => (own_range HVV.out hpr hx).1) (l.take k))
          have hE2 := hE1.q hq
          clear hal hall hpr hq hE1
          go_wp2_with fail
          go_loopw [9, 11] (fun ts ti wr2 => ∃ (i : Nat) (t : Int), i ≤ n ∧ ti = .int .i64 i ∧ ts = .int .i64 t ∧ E w wr2 ∧ Hid (t = s + fsum ps l (l.take i))) (fun _ ti _ => n - (intOf ti).toNat)
          case atStart => exact ⟨0, s, Nat.zero_le _, rfl, rfl, hE2, show s = s + fsum ps l (l.take 0) by simp [fsum, firsts]⟩
          case round =>
            obtain ⟨i, t, hi, rfl, rfl, hE, ht⟩ := hrel
            have hfr := HFR.out i
            have hti : (l.take i).length ≤ 10 := by rw [List.length_take]; omega
            have htr : 0 ≤ t ∧ t ≤ 8796093022208 + 10995116277760 := by rw [ht.out]; omega
            obtain ⟨ht0, ht1⟩ := htr
            clear hfr hti
            by_cases hil : (i : Int) < (n : Int)
            · obtain ⟨b, o, x, A1, n1, c1, rfl, hb, hx, hv1, hv2, hN, hcs⟩ := h.item (i := i) (by omega)
              have HCS := Lib.hid hcs
              have HX := Lib.hid hx
              clear hcs hx hN hv1 hv2
              go_wp2_with fail
              go_loopw [12, 13] (fun tf tk wr3 => ∃ (k : Nat) (fb : Bool), k ≤ i ∧ tk = .int .i64 k ∧ tf = .bool fb ∧ E w wr3 ∧ Hid (fb = (l.take k).all fun y => y.1 != x.1)) (fun _ tk _ => i - (intOf tk).toNat)
              case atStart => exact ⟨0, true, Nat.zero_le _, rfl, rfl, hE, rfl⟩
              case round =>
                obtain ⟨k, fb, hk, rfl, rfl, hE3, hfb⟩ := hrel
                by_cases hki : (k : Int) < (i : Int)
                · obtain ⟨b', o', y, A1', n1', c1', e3, hb', hy, hv1', hv2', hN', hcs'⟩ := h.item (i := k) (by omega)
                  injection e3 with e3
                  injection e3 with e3 e4
                  subst e3 e4
                  obtain ⟨p1, _, _⟩ := HCS.out _ hE3
                  obtain ⟨q1, _, _⟩ := hcs' _ hE3
                  have hkI : (k : Int) < (n : Int) := by omega
                  have HN := Lib.hid (show (fb && y.1 != x.1) = (l.take (k + 1)).all fun y => y.1 != x.1 by rw [List.take_add_one, hy, List.all_append, hfb.out]; simp)
                  clear hfb hcs' hy hN' hv1' hv2'
                  obtain ⟨yb, yp, yl⟩ := y
                  obtain ⟨xb, xp, xl⟩ := x
                  simp only at *
                  cases fb
                  · go_wp2_with fail
                    try go_quiet (fail)
                    all_goals go_wp2_with fail
                    first
                      | exact ⟨⟨k + 1, _, by omega, by go_num, rfl, hE3, HN.out⟩, by simp [intOf]; omega⟩
                      | exact ⟨⟨k + 1, _, by omega, by go_num, rfl, hE3.drewN _, HN.out⟩, by simp [intOf]; omega⟩
                  · cases hb0 : (yb != xb)
                    · rw [hb0] at HN
                      go_wp2_with fail
                      try go_quiet (fail)
                      all_goals go_wp2_with fail
                      first
                        | exact ⟨⟨k + 1, _, by omega, by go_num, rfl, hE3, HN.out⟩, by simp [intOf]; omega⟩
                        | exact ⟨⟨k + 1, _, by omega, by go_num, rfl, hE3.drewN _, HN.out⟩, by simp [intOf]; omega⟩
                    · rw [hb0] at HN
                      go_wp2_with fail
                      try go_quiet (fail)
                      all_goals go_wp2_with fail
                      first
                        | exact ⟨⟨k + 1, _, by omega, by go_num, rfl, hE3, HN.out⟩, by simp [intOf]; omega⟩
                        | exact ⟨⟨k + 1, _, by omega, by go_num, rfl, hE3.drewN _, HN.out⟩, by simp [intOf]; omega⟩
                · have hki' : k = i := by omega
                  have hfs := fsum_snoc ps l (l.take i) x
                  have htk : l.take (i + 1) = l.take i ++ [x] := by rw [List.take_add_one, HX.out]; rfl
                  have hmem : x.1 ∈ firsts (l.take i) ↔ fb = false := by
                    rw [hfb.out, hki', firsts_mem, List.all_eq_false]
                    simp only [bne_iff_ne, ne_eq, Decidable.not_not]
                  obtain ⟨p1, _, _⟩ := HCS.out _ hE3
                  have hsr := HSR.out x.1
                  have HSC := Lib.hid (HSU.out x.1)
                  obtain ⟨sv, hsv⟩ : ∃ sv, sur ps l x.1 = sv := ⟨_, rfl⟩
                  rw [hsv] at HSC hfs
                  have hsv' : 0 ≤ sv ∧ sv ≤ 1099511627776 := by rw [← hsv]; exact hsr
                  obtain ⟨hsv0, hsv1⟩ := hsv'
                  cases fb
                  · have HN := Lib.hid (show t = s + fsum ps l (l.take (i + 1)) by rw [htk, hfs, if_pos (hmem.2 rfl), ht.out]; omega)
                    clear hfb hki' hfs htk hmem hsr hsv ht
                    go_wp2_with fail
                    exact ⟨⟨i + 1, t, by omega, by go_num, rfl, hE3, HN.out⟩, by simp [intOf]; omega⟩
                  · have HN := Lib.hid (show t + sv = s + fsum ps l (l.take (i + 1)) by rw [htk, hfs, if_neg (fun hh => by have := hmem.1 hh; cases this), ht.out]; omega)
                    clear hfb hki' hfs htk hmem hsr hsv ht
                    obtain ⟨xb, xp, xl⟩ := x
                    simp only at *
                    go_wp2_with fail
                    refine (HSC.out _ hE3).mono ?_
                    rintro e w5 ⟨rfl, hE5⟩
                    go_wp2_with fail
                    exact ⟨⟨i + 1, t + sv, by omega, by go_num, rfl, hE3.trans hE5, HN.out⟩, by simp [intOf]; omega⟩
            · have HFF := Lib.hid (show f1 = t ∧ f2 = 0 by
                refine ⟨?_, HF.out.2⟩
                rw [HF.out.1, ht.out, List.take_of_length_le (by omega)])
              clear ht
              go_wp2_with fail
              go_ret2
              obtain ⟨e1, e2⟩ := HFF.out
              subst e1 e2
              exact ⟨rfl, hE⟩
    · rw [show boundF N l ps = (0, 1) by rw [boundF, if_pos hv, if_neg (show ¬ (ps.length : Int) = N by omega)]]
      have hdl : ((np : Int) != N) = true := by simp [hlen]
      clear hlen hv
      go_enter Try.func22, Try.ntmps22
      go_wp2_with fail
      refine HV.out.mono ?_
      rintro e w1 ⟨rfl, hE1⟩
      go_wp2_with fail
      go_ret2
      exact ⟨rfl, hE1⟩
  · rw [show boundF N l ps = (0, validS N l) by rw [boundF, if_neg hv]]
    have hne : (validS N l != 0) = true := by simpa using hv
    generalize validS N l = v at *
    clear h
    go_enter Try.func22, Try.ntmps22
    go_wp2_with fail
    refine HV.out.mono ?_
    rintro e w1 ⟨rfl, hE1⟩
    go_wp2_with fail
    go_ret2
    exact ⟨rfl, hE1⟩
end Go.Proofs.Ytkcbdnaampiedaa
