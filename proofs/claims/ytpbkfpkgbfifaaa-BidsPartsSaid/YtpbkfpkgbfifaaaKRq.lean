/- The model's Parts; the law's same; BidsParts. -/
import Derived.Test.YtpbkfpkgbfifaaaKRp
namespace Go.Proofs.Ytpbkfpkgbfifaaa
open Go.RowKit

def grp (l : List Bd) (i n : Nat) : List Nat := (List.range n).filter fun k => (groupsF l).getD k 0 == i
theorem grp_succ (l : List Bd) (i n : Nat) : grp l i (n + 1) = if (groupsF l).getD n 0 = i then grp l i n ++ [n] else grp l i n := by
  unfold grp
  rw [List.range_succ, List.filter_append]
  by_cases h : (groupsF l).getD n 0 = i
  · rw [if_pos h, List.filter_cons_of_pos (by rw [h]; simp)]; rfl
  · rw [if_neg h, List.filter_cons_of_neg (by simpa using h)]; simp
def rpK (l : List Bd) (n : Nat) : List (List Nat) := ((List.range n).filter fun i => (groupsF l).getD i 0 == i).map fun i => grp l i l.length
theorem rpK_succ (l : List Bd) (n : Nat) : rpK l (n + 1) = if (groupsF l).getD n 0 = n then rpK l n ++ [grp l n l.length] else rpK l n := by
  unfold rpK
  rw [List.range_succ, List.filter_append]
  by_cases h : (groupsF l).getD n 0 = n
  · rw [if_pos h, List.filter_cons_of_pos (by rw [h]; simp), List.map_append]; rfl
  · rw [if_neg h, List.filter_cons_of_neg (by simpa using h)]; simp
set_option maxHeartbeats 8000000 in
set_option maxRecDepth 100000 in
theorem refParts_c (A : Option Addr) (n c : Nat) (l : List Bd) (w : World) (h : BidsAt w A n c l) (hn : n ≤ 1000) :
    Calls Try.prog 25 #[.slice A n c] w (RetRows w ((refPartsF l).map ints)) := by
  have hl := h.len
  have HG := Lib.hid (refGroups_c A n c l w h hn)
  have hgl : (groupsF l).length = n := by unfold groupsF; rw [groupsK_len, hl]
  have HGL := Lib.hid hgl
  clear hgl
  go_enter Try.func25, Try.ntmps25
  go_wp2_with fail
  refine HG.out.mono ?_
  rintro e w1 ⟨Ag, ng, cg, rfl, hOg, hE1⟩
  have hng : ng = n := by have := hOg.1; rw [ints_len, HGL.out] at this; exact this.symm
  subst hng
  have hNg := hOg.reads
  clear HG hOg
  go_wp2_with fail
  go_loopw [4, 5] (fun t4 ti wr => ∃ (i m c4 : Nat) (A4 : Option Addr) (q : List (List Int × Sl)), i ≤ ng ∧ ti = .int .i64 i ∧ t4 = .slice A4 m c4 ∧ GRow wr w1.heap.size A4 m c4 q ∧ E w1 wr ∧ m ≤ i ∧ Hid (q.map Prod.fst = (rpK l i).map ints)) (fun _ ti _ => ng - (intOf ti).toNat)
  case atStart => exact ⟨0, 0, 0, none, [], Nat.zero_le _, rfl, rfl, GRow.nil _ _, E.refl _, Nat.le_refl _, rfl⟩
  case round =>
    obtain ⟨i, m, c4, A4, q, hi, rfl, rfl, hG, hE, hmi, hq⟩ := hrel
    by_cases hil : (i : Int) < (ng : Int)
    · obtain ⟨b, o, v, rfl, hb, hv, hwv, hcv⟩ := (hNg.e hE).get (i := i) (by omega)
      have hv' := ints_get hv
      have HRP := Lib.hid (rpK_succ l i)
      have HV := Lib.hid hv'
      clear hv hwv hv'
      by_cases hvi : v = (i : Int)
      · have HN := Lib.hid (show rpK l (i + 1) = rpK l i ++ [grp l i ng] by
          rw [HRP.out, if_pos (by have := HV.out; omega), hl])
        subst hvi
        obtain ⟨wi, hwi⟩ : ∃ wi, wi = wr := ⟨_, rfl⟩
        subst hwi
        go_wp2_with fail
        go_loopw [6, 7] (fun t6 ti wr => ∃ (k mk c6 : Nat) (A6 : Option Addr), k ≤ ng ∧ ti = .int .i64 k ∧ t6 = .slice A6 mk c6 ∧ Own .i64 3 wr wi.heap.size A6 mk c6 (ints (grp l i k)) ∧ E wi wr ∧ mk ≤ k) (fun _ ti _ => ng - (intOf ti).toNat)
        case atStart => exact ⟨0, 0, 0, none, Nat.zero_le _, rfl, rfl, Own.nil _ _ _ _, E.refl _, Nat.le_refl _⟩
        case round =>
          obtain ⟨k, mk, c6, A6, hk, rfl, rfl, hO6, hE6, hmk⟩ := hrel
          by_cases hkl : (k : Int) < (ng : Int)
          · obtain ⟨b', o', u, e3, hb', hu, hwu, hcu⟩ := ((hNg.e hE).e hE6).get (i := k) (by omega)
            injection e3 with e3
            injection e3 with e3 e4
            subst e3 e4
            have hu' := ints_get hu
            have HGS := Lib.hid (grp_succ l i k)
            have HU := Lib.hid hu'
            clear hu hwu hu'
            by_cases hui : u = (i : Int)
            · have HK := Lib.hid (show grp l i (k + 1) = grp l i k ++ [k] by rw [HGS.out, if_pos (by have := HU.out; omega)])
              subst hui
              go_wp2_with (first | (refine wpList_app1n intTk _ rfl _ _ rfl wi.heap.size _ _ _ _ rfl hO6 (k : Int) rfl (wf_of_i64 (by omega) (by omega)) (by omega) hE6.le ?_; intro g' c9 w9 hO9 hG9 hB9 _) | fail)
              exact ⟨⟨k + 1, mk + 1, c9, _, by omega, by go_num, rfl, by rw [HK.out, ints_app]; exact hO9, hE6.up hB9, by omega⟩, by simp [intOf]; omega⟩
            · have HK := Lib.hid (show grp l i (k + 1) = grp l i k by rw [HGS.out, if_neg (by have := HU.out; omega)])
              go_wp2_with fail
              exact ⟨⟨k + 1, mk, c6, _, by omega, by go_num, rfl, by rw [HK.out]; exact hO6, hE6, by omega⟩, by simp [intOf]; omega⟩
          · have hkn : k = ng := by omega
            subst hkn
            have hG6 := hG.e hE6
            have hb6 : w1.heap.size ≤ wr.heap.size := Nat.le_trans hE.le hE6.le
            have hne6 : 0 < mk → ob A6 ≠ ob A4 := fun h0 e => by
              cases ha : ob A6 with
              | none =>
                obtain ⟨b', o', e', _⟩ := hO6.reads.at_ h0
                rw [e'] at ha; cases ha
              | some b => rw [ha] at e; have := (hO6.ltN b ha).1; have := (hG.ltN b e.symm).2; omega
            go_wp2_with (first | (refine wpList_appG _ rfl _ _ rfl w1.heap.size _ _ _ _ rfl hG6 (ints (grp l i k), A6, mk, c6) rfl ⟨hO6.reads, hne6⟩ (by omega) hb6 ?_; intro g' c10 w10 hG10 hGr10 hB10) | fail)
            exact ⟨⟨i + 1, m + 1, c10, _, _, by omega, by go_num, rfl, hG10, (hE.trans hE6).up hB10, by omega, show _ = _ by rw [HN.out, List.map_append, hq.out, List.map_append]; rfl⟩, by simp [intOf]; omega⟩
      · have HN := Lib.hid (show rpK l (i + 1) = rpK l i by rw [HRP.out, if_neg (by have := HV.out; omega)])
        go_wp2_with fail
        exact ⟨⟨i + 1, m, c4, _, q, by omega, by go_num, rfl, hG, hE, by omega, show _ = _ by rw [HN.out]; exact hq.out⟩, by simp [intOf]; omega⟩
    · have HF := Lib.hid (show q.map Prod.fst = (refPartsF l).map ints by
        rw [hq.out, show i = l.length by omega]; rfl)
      go_wp2_with fail
      go_ret
      exact ⟨A4, m, c4, q, rfl, hG.rebase hE1.le, HF.out, hE1.trans hE⟩
set_option maxHeartbeats 2000000 in
set_option maxRecDepth 100000 in
theorem same7_c (A1 A2 : Option Addr) (n1 c1 n2 c2 : Nat) (L1 L2 : List (List Int)) (w : World) (h1 : RowsAt w A1 n1 c1 L1) (h2 : RowsAt w A2 n2 c2 L2) (he : L1 = L2) :
    Calls Try.prog 23 #[.slice A1 n1 c1, .slice A2 n2 c2] w (RetK w true) := by
  subst he
  have hm := h1.n63
  have hnn : n2 = n1 := by rw [← h1.len, ← h2.len]
  subst hnn
  go_enter Try.func23, Try.ntmps23
  go_wp2_with fail
  go_loopw [5] (fun ti wr => ∃ i : Nat, i ≤ n2 ∧ ti = .int .i64 i ∧ E w wr) (fun ti _ => n2 - (intOf ti).toNat)
  case atStart => exact ⟨0, Nat.zero_le _, rfl, E.refl _⟩
  case round =>
    obtain ⟨i, hi, rfl, hE⟩ := hrel
    by_cases hil : (i : Int) < (n2 : Int)
    · obtain ⟨b, o, x, A', n', c', rfl, hb, hx, hc, hN⟩ := (h1.e hE).get (i := i) (by omega)
      obtain ⟨b', o', x', A'', n'', c'', rfl, hb', hx', hc', hN'⟩ := (h2.e hE).get (i := i) (by omega)
      have hxx : x' = x := by rw [hx] at hx'; injection hx' with hx'; exact hx'.symm
      subst hxx
      have HS := Lib.hid (fun W (hW : E wr W) => sameInts_e A' A'' n' c' n'' c'' x' x' W (hN.e hW) (hN'.e hW))
      rw [sameB_self] at HS
      clear hx hx'
      go_wp2_with fail
      go_still_tail 8, (by kernel_rfl)
      go_wp2_with fail
      refine (HS.out _ ((E.refl wr).drew)).mono ?_
      rintro e w1 ⟨rfl, hE1⟩
      go_wp2_with fail
      go_roundw
      case rel => exact ⟨i + 1, by omega, by go_num, (hE.trans ((E.refl wr).drew)).trans hE1⟩
      case measure => simp [intOf]; omega
    · go_wp2_with fail
      go_ret
      exact ⟨rfl, hE⟩
set_option maxHeartbeats 4000000 in
set_option maxRecDepth 100000 in
theorem bidsParts_w (N : Int) (A : Option Addr) (n c : Nat) (l : List Int) (w : World) (h : Nums .i64 w A n c l) (hN1 : -9223372036854775808 ≤ N) (hN2 : N ≤ 9223372036854775807) :
    Calls Try.prog 5 #[.int .i64 N, .slice A n c] w (RetK w true) := by
  have hr := aroN_range N (m := 8) (by omega)
  have HL := Lib.hid (lots27_c N w hN1 hN2)
  obtain ⟨K, hK⟩ : ∃ K : Nat, 1 + aroN N 8 = K := ⟨(1 + aroN N 8).toNat, by omega⟩
  rw [hK] at HL
  have hK1 : 1 ≤ K := by omega
  have hK8 : K ≤ 8 := by omega
  clear hK hr
  have HB := Lib.hid (bids27_c K 10 A n c l w h hK1 hK8 (by omega))
  go_enter Try.func5, Try.ntmps5
  go_wp2_with fail
  refine HL.out.mono ?_
  rintro e w' ⟨rfl, rfl⟩
  go_wp2_with fail
  refine HB.out.mono ?_
  rintro e w1 ⟨lb, hlb, hgen, A1, n1, c1, q1, rfl, hR1, hq1, hE1⟩
  have hn1 : n1 ≤ 10 := by rw [← hR1.1, ← List.length_map (f := Prod.fst), hq1]; exact hlb
  have hbd1 := hR1.bids
  rw [hq1] at hbd1
  have h1000 := gen_1000 hgen (by omega) (by omega)
  have HG := Lib.hid (given7_c _ _ _ _ _ hbd1 (by omega))
  clear HB HL hq1 hR1 hgen
  go_wp2_with fail
  refine HG.out.mono ?_
  rintro e w2 ⟨A2, n2, c2, q2, rfl, hR2, hq2, hE2⟩
  have hbd2 := hR2.bids
  rw [hq2] at hbd2
  have hn2 : n2 ≤ 10 := by rw [← hbd2.len]; exact hlb
  have HR := Lib.hid (parts_c _ _ _ _ _ hbd2 (by omega) h1000)
  clear HG hR2 hq2 h1000
  go_wp2_with fail
  refine HR.out.mono ?_
  rintro e w3 ⟨A3, n3, c3, q3, rfl, hG3, hq3, hE3⟩
  have HRR := Lib.hid (refParts_c _ _ _ _ _ ((hbd1.e hE2).e hE3) (by omega))
  clear HR hbd2
  go_wp2_with fail
  refine HRR.out.mono ?_
  rintro e w4 ⟨A4, n4, c4, q4, rfl, hG4, hq4, hE4⟩
  have HS := Lib.hid (same7_c _ _ _ _ _ _ _ _ _ (hG3.rows.e hE4) hG4.rows (by rw [hq3, hq4, refParts_eq]))
  clear HRR hbd1 hq3 hq4
  go_wp2_with fail
  refine HS.out.mono ?_
  rintro e w5 ⟨rfl, hE5⟩
  have HLi := Lib.hid (lives27_c w5)
  clear HS hG3 hG4
  go_wp2_with fail
  refine HLi.out.mono ?_
  rintro e w6 ⟨rfl, hE6⟩
  go_wp2_with fail
  go_ret
  exact ⟨rfl, ((((hE1.trans hE2).trans hE3).trans hE4).trans hE5).trans hE6⟩
end Go.Proofs.Ytpbkfpkgbfifaaa
