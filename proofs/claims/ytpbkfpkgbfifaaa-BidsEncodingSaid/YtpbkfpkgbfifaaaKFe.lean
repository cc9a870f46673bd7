/- The model's Feasible. -/
import Derived.Test.YtpbkfpkgbfifaaaKU
namespace Go.Proofs.Ytpbkfpkgbfifaaa
open Go.RowKit

def toN (win : List Int) : List Nat := win.map Int.toNat
/-- a choice of any numbers is feasible -/
def feasZ (l : List Bd) (win : List Int) : Bool := lotsOk l.length (-1) win && apartB l (toN win)
def NC (l : List Bd) (win : List Int) (i k : Nat) : Prop := confl (l.getD ((toN win).getD i 0) bd0) (l.getD ((toN win).getD k 0) bd0) = false
theorem apart_all {l : List Bd} {win : List Int} (h : ∀ i k, i < win.length → k < i → NC l win i k) : apartB l (toN win) = true := by
  rw [apartB_iff, List.pairwise_iff_getElem]
  intro i j hi hj hij
  rw [confl_symm]
  have := h j i (by simpa [toN] using hj) hij
  unfold NC at this
  rw [List.getD_eq_getElem?_getD (l := toN win), List.getD_eq_getElem?_getD (l := toN win), List.getElem?_eq_getElem hi, List.getElem?_eq_getElem hj] at this
  exact this
theorem apart_not {l : List Bd} {win : List Int} {i k : Nat} (hi : i < win.length) (hk : k < i) (h : confl (l.getD ((toN win).getD i 0) bd0) (l.getD ((toN win).getD k 0) bd0) = true) : apartB l (toN win) = false := by
  rw [Bool.eq_false_iff]
  intro ha
  rw [apartB_iff, List.pairwise_iff_getElem] at ha
  have hi' : i < (toN win).length := by simpa [toN] using hi
  have := ha k i (by omega) hi' hk
  rw [confl_symm] at this
  rw [List.getD_eq_getElem?_getD (l := toN win), List.getD_eq_getElem?_getD (l := toN win), List.getElem?_eq_getElem hi', List.getElem?_eq_getElem (by omega)] at h
  simp only [Option.getD_some] at h
  rw [this] at h
  cases h

set_option maxHeartbeats 4000000 in
set_option maxRecDepth 100000 in
theorem refFeasible_c (A : Option Addr) (n c : Nat) (l : List Bd) (A2 : Option Addr) (n2 c2 : Nat) (win : List Int) (w : World) (h : BidsAt w A n c l) (h2 : Nums .i64 w A2 n2 c2 win) :
    Calls Try.prog 35 #[.slice A n c, .slice A2 n2 c2] w (RetK w (feasZ l win)) := by
  have hm := h.n63
  have hl := h.len
  have hm2 := h2.n63
  have hl2 := h2.len
  obtain ⟨fin, hfin⟩ : ∃ fin, feasZ l win = fin := ⟨_, rfl⟩
  rw [hfin]
  have HFIN := Lib.hid hfin
  clear hfin
  go_enter Try.func35, Try.ntmps35
  go_wp2_with fail
  go_loopw [5] (fun ti wr => ∃ (j : Nat) (last : Int), j ≤ n2 ∧ ti = .int .i64 j ∧ Q w wr ∧ Hid (((j = 0 ∧ last = -1) ∨ (0 < j ∧ win[j - 1]? = some last ∧ 0 ≤ last)) ∧ lotsOk n last (win.drop j) = lotsOk n (-1) win)) (fun ti _ => n2 - (intOf ti).toNat)
  case atStart => exact ⟨0, -1, Nat.zero_le _, rfl, Q.refl _, .inl ⟨rfl, rfl⟩, rfl⟩
  case round =>
    obtain ⟨j, last, hj, rfl, hq, hlo⟩ := hrel
    by_cases hjl : (j : Int) < (n2 : Int)
    · obtain ⟨b2, o2, y, rfl, hb2, hy, hwy, hcy⟩ := (h2.q hq).get (i := j) (by omega)
      have hyr := wf_i64 hwy
      have hD := drop_at hy
      have HL := Lib.hid (show (decide (last < y) && decide (y < n) && lotsOk n y (win.drop (j + 1))) = lotsOk n (-1) win by rw [← hlo.out.2, hD]; rfl)
      have hlast : -1 ≤ last := by rcases hlo.out.1 with ⟨_, h⟩ | ⟨_, _, h⟩ <;> omega
      by_cases f0 : y < 0
      · have HF := Lib.hid (show fin = false by
          have : lotsOk n (-1) win = false := by rw [← HL.out]; simp; omega
          rw [← HFIN.out, feasZ, hl, this]; rfl)
        clear hlo hy hwy hD
        go_wp2_with fail
        go_quiet (fail)
        go_wp2_with fail
        go_ret
        exact ⟨ret_bool HF.out.symm, (E.of_q hq).drewN _⟩
      by_cases f2 : (n : Int) ≤ y
      · have HF := Lib.hid (show fin = false by
          have : lotsOk n (-1) win = false := by rw [← HL.out]; simp; omega
          rw [← HFIN.out, feasZ, hl, this]; rfl)
        clear hlo hy hwy hD
        go_wp2_with fail
        have d0 : decide (y < 0) = false := by simp; omega
        go_quiet (fail)
        go_wp2_with fail
        go_ret
        exact ⟨ret_bool HF.out.symm, (E.of_q hq).drewN _⟩
      by_cases j0 : (0 : Int) < (j : Int)
      · obtain ⟨b3, o3, y', e3, hb3, hy', hwy', hcy'⟩ := (h2.q hq).get (i := j - 1) (by omega)
        injection e3 with e3
        injection e3 with e3 e4
        subst e3 e4
        have hyl : y' = last := by
          rcases hlo.out.1 with ⟨h, _⟩ | ⟨_, h, _⟩
          · omega
          · rw [hy'] at h; injection h
        subst hyl
        obtain ⟨jm, hjm⟩ : ∃ jm, j - 1 = jm := ⟨_, rfl⟩
        rw [hjm] at hcy'
        have ejm : (j : Int) - 1 = (jm : Int) := by omega
        have ejn : (jm : Int) < (n2 : Int) := by omega
        clear hjm
        by_cases f1 : y ≤ y'
        · have HF := Lib.hid (show fin = false by
            have : lotsOk n (-1) win = false := by rw [← HL.out]; simp; omega
            rw [← HFIN.out, feasZ, hl, this]; rfl)
          clear hlo hy hwy hD hy' hwy'
          go_wp2_with fail
          have d0 : decide (y < 0) = false := by simp; omega
          have d1 : decide ((n : Int) ≤ y) = false := by simp; omega
          have d3 : decide (0 < j) = true := by simp; omega
          go_quiet (fail)
          go_wp2_with fail
          go_ret
          exact ⟨ret_bool HF.out.symm, (E.of_q hq).drewN _⟩
        · have HN := Lib.hid (show ((j + 1 = 0 ∧ y = -1) ∨ (0 < j + 1 ∧ win[j + 1 - 1]? = some y ∧ 0 ≤ y)) ∧ lotsOk n y (win.drop (j + 1)) = lotsOk n (-1) win from ⟨.inr ⟨by omega, hy, by omega⟩, by rw [← HL.out]; simp; omega⟩)
          clear hlo hy hwy hD hy' hwy'
          go_wp2_with fail
          have d0 : decide (y < 0) = false := by simp; omega
          have d1 : decide ((n : Int) ≤ y) = false := by simp; omega
          have d2 : decide (y ≤ y') = false := by simp; omega
          have d3 : decide (0 < j) = true := by simp; omega
          go_quiet (fail)
          go_wp2_with fail
          exact ⟨⟨j + 1, y, by omega, by go_num, hq.drewN _, HN.out⟩, by simp [intOf]; omega⟩
      · have hj0 : j = 0 := by omega
        have HN := Lib.hid (show ((j + 1 = 0 ∧ y = -1) ∨ (0 < j + 1 ∧ win[j + 1 - 1]? = some y ∧ 0 ≤ y)) ∧ lotsOk n y (win.drop (j + 1)) = lotsOk n (-1) win from ⟨.inr ⟨by omega, hy, by omega⟩, by
          have hll : last < y := by rcases hlo.out.1 with ⟨_, h⟩ | ⟨h, _⟩ <;> omega
          rw [← HL.out]; simp; omega⟩)
        clear hlo hy hwy hD hj0
        go_wp2_with fail
        have d0 : decide (y < 0) = false := by simp; omega
        have d1 : decide ((n : Int) ≤ y) = false := by simp; omega
        have d3 : decide (0 < j) = false := by simp; omega
        go_quiet (fail)
        go_wp2_with fail
        exact ⟨⟨j + 1, y, by omega, by go_num, hq.drewN _, HN.out⟩, by simp [intOf]; omega⟩
    · have hlw : lotsOk n (-1) win = true := by rw [← hlo.out.2, drop_end hl2 (by omega)]; rfl
      have HRG := Lib.hid (fun t ht => lotsOk_mem hlw t ht)
      have HAP := Lib.hid (show apartB l (toN win) = fin by rw [← HFIN.out, feasZ, hl, hlw]; rfl)
      clear hlo hlw HFIN
      have hE0 : E w wr := E.of_q hq
      clear hq
      go_wp2_with fail
      go_loopw [6] (fun ti wr => ∃ i : Nat, i ≤ n2 ∧ ti = .int .i64 i ∧ E w wr ∧ Hid (∀ i' k', i' < i → k' < i' → NC l win i' k')) (fun ti _ => n2 - (intOf ti).toNat)
      case atStart => exact ⟨0, Nat.zero_le _, rfl, hE0, fun i' k' hi => absurd hi (by omega)⟩
      case round =>
        obtain ⟨i, hi, rfl, hE, hnc⟩ := hrel
        by_cases hil : (i : Int) < (n2 : Int)
        · go_wp2_with fail
          go_loopw [7] (fun ti wr => ∃ k : Nat, k ≤ i ∧ ti = .int .i64 k ∧ E w wr ∧ Hid (∀ k', k' < k → NC l win i k')) (fun ti _ => i - (intOf ti).toNat)
          case atStart => exact ⟨0, Nat.zero_le _, rfl, hE, fun k' hk => absurd hk (by omega)⟩
          case round =>
            obtain ⟨k, hk, rfl, hE, hnk⟩ := hrel
            by_cases hki : (k : Int) < (i : Int)
            · obtain ⟨b2, o2, y, rfl, hb2, hy, hwy, hcy⟩ := (h2.e hE).get (i := i) (by omega)
              obtain ⟨b3, o3, z, e3, hb3, hz, hwz, hcz⟩ := (h2.e hE).get (i := k) (by omega)
              injection e3 with e3
              injection e3 with e3 e4
              subst e3 e4
              have hyr := HRG.out y (List.mem_of_getElem? hy)
              have hzr := HRG.out z (List.mem_of_getElem? hz)
              obtain ⟨yn, rfl⟩ : ∃ yn : Nat, y = yn := ⟨y.toNat, by omega⟩
              obtain ⟨zn, rfl⟩ : ∃ zn : Nat, z = zn := ⟨z.toNat, by omega⟩
              obtain ⟨b, o, x, A1, n1, c1, rfl, hb, hx, hv1, hv2, hN, hcs⟩ := h.item (i := yn) (by omega)
              obtain ⟨b', o', x', A1', n1', c1', e3, hb', hx', hv1', hv2', hN', hcs'⟩ := h.item (i := zn) (by omega)
              injection e3 with e3
              injection e3 with e3 e4
              subst e3 e4
              obtain ⟨p1, p2, p3⟩ := hcs wr hE
              obtain ⟨q1, q2, q3⟩ := hcs' wr hE
              have hgi : (toN win).getD i 0 = yn := by rw [toN, List.getD_eq_getElem?_getD, List.getElem?_map, hy]; rfl
              have hgk : (toN win).getD k 0 = zn := by rw [toN, List.getD_eq_getElem?_getD, List.getElem?_map, hz]; rfl
              have hgx : l.getD yn bd0 = x := by rw [List.getD_eq_getElem?_getD, hx]; rfl
              have hgx' : l.getD zn bd0 = x' := by rw [List.getD_eq_getElem?_getD, hx']; rfl
              have HCF := Lib.hid (fun W hW => refConflict_c x x' A1 A1' n1 c1 n1' c1' W (hN.e hW) (hN'.e hW))
              have hyI : (yn : Int) < (n : Int) := by omega
              have hzI : (zn : Int) < (n : Int) := by omega
              have hkI : (k : Int) < (n2 : Int) := by omega
              have HCC := Lib.hid (show confl (l.getD ((toN win).getD i 0) bd0) (l.getD ((toN win).getD k 0) bd0) = confl x x' by rw [hgi, hgk, hgx, hgx'])
              clear hy hz hwy hwz hx hx' hv1 hv2 hv1' hv2' hcs hcs' hyr hzr hgi hgk hgx hgx' hN hN'
              unfold bdV at HCF
              generalize confl x x' = cf at HCF HCC
              cases cf
              · have HN := Lib.hid (show ∀ k', k' < k + 1 → NC l win i k' from fun k' hk' => by
                  by_cases e : k' = k
                  · subst e; exact HCC.out
                  · exact hnk.out k' (by omega))
                clear hnk
                go_wp2_with fail
                go_still_tail 14, (by kernel_rfl)
                go_wp2_with fail
                refine (HCF.out _ hE.drew).mono ?_
                rintro e w2 ⟨rfl, hE2⟩
                go_wp2_with fail
                exact ⟨⟨k + 1, by omega, by go_num, hE.drew.trans hE2, HN.out⟩, by simp [intOf]; omega⟩
              · have HN := Lib.hid (show fin = false by rw [← HAP.out]; exact apart_not (by omega) (by omega) HCC.out)
                clear hnk
                go_wp2_with fail
                go_still_tail 14, (by kernel_rfl)
                go_wp2_with fail
                refine (HCF.out _ hE.drew).mono ?_
                rintro e w2 ⟨rfl, hE2⟩
                go_wp2_with fail
                go_ret
                exact ⟨ret_bool HN.out.symm, hE.drew.trans hE2⟩
            · have HN := Lib.hid (show ∀ i' k', i' < i + 1 → k' < i' → NC l win i' k' from fun i' k' hi' hk' => by
                by_cases e : i' = i
                · subst e; exact hnk.out k' (by omega)
                · exact hnc.out i' k' (by omega) hk')
              clear hnk hnc
              go_wp2_with fail
              exact ⟨⟨i + 1, by omega, by go_num, hE, HN.out⟩, by simp [intOf]; omega⟩
        · have HN := Lib.hid (show fin = true by rw [← HAP.out]; exact apart_all fun i' k' hi' hk' => hnc.out i' k' (by omega) hk')
          clear hnc
          go_wp2_with fail
          go_ret
          exact ⟨ret_bool HN.out.symm, hE⟩
end Go.Proofs.Ytpbkfpkgbfifaaa
