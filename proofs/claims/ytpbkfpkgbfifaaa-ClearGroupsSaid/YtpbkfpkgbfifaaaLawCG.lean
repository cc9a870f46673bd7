/- The walk of ClearGroups. -/
import Derived.Test.YtpbkfpkgbfifaaaKTo
import Derived.Test.YtpbkfpkgbfifaaaCG
namespace Go.Proofs.Ytpbkfpkgbfifaaa
open Go.RowKit

structure GF (l : List Bd) (win : List Nat) (g : List Nat) : Prop where
  pw : g.Pairwise (· < ·)
  lt : ∀ x ∈ g, x < l.length
  got : lift g (bestS (partOf l g)).1 = win.filter fun x => g.contains x
  vl : (bestS (partOf l g)).2 = val l (win.filter fun x => g.contains x)
  rng : ∀ i ∈ (bestS (partOf l g)).1, i < g.length
theorem partOf_nn {l : List Bd} (hp : ∀ x ∈ l, 0 ≤ x.2.1) {g : List Nat} (hl : ∀ x ∈ g, x < l.length) (i : Nat) : 0 ≤ pr (partOf l g) i := by
  refine pr_nn (fun x hx => ?_) i
  obtain ⟨j, hj, rfl⟩ := List.mem_map.1 hx
  rw [List.getD_eq_getElem?_getD, List.getElem?_eq_getElem (hl j hj)]
  exact hp _ (List.getElem_mem _)
theorem gf_all {l : List Bd} (hp : ∀ x ∈ l, 1 ≤ x.2.1) : (∀ g ∈ partsF l, GF l (bestS l).1 g) ∧ GF l (bestS l).1 (redS l) ∧ (bestS l).1.filter (fun x => (redS l).contains x) = (bestS l).1 := by
  have hp0 : ∀ x ∈ l, 0 ≤ x.2.1 := fun x hx => by have := hp x hx; omega
  have hpi : ∀ i, i < l.length → 1 ≤ pr l i := fun i hi => by
    unfold pr
    rw [List.getD_eq_getElem?_getD, List.getElem?_eq_getElem hi]
    exact hp _ (List.getElem_mem _)
  have hO := bestS_opt (pr_nn hp0)
  obtain ⟨hM, hV⟩ := opt_to_m hpi (fun c h => h) hO
  have rngOf : ∀ g : List Nat, (∀ x ∈ g, x < l.length) → ∀ i ∈ (bestS (partOf l g)).1, i < g.length := fun g hl i hi => by
    have := (bestS_opt (partOf_nn hp0 hl)).1.2.1 i hi
    unfold partOf at this
    simpa using this
  refine ⟨fun g hg => ?_, ?_⟩
  · have hl := parts_lt hg
    obtain ⟨p1, p2⟩ := part_opt (parts_pw hg) hl hpi (partOf_nn hp0 hl)
    have e := p1.unique (group_opt hM hg)
    exact ⟨parts_pw hg, hl, e, by rw [p2, e], rngOf g hl⟩
  · have hO' : Opt (feas l) l ((bestS l).1, val l (bestS l).1) := by rw [← hV]; exact hO
    obtain ⟨r1, r2⟩ := red_opt hO' hM
    have hf : (bestS l).1.filter (fun x => (redS l).contains x) = (bestS l).1 := by
      rw [List.filter_eq_self]
      intro x hx
      simpa using r1 x hx
    obtain ⟨p1, p2⟩ := part_opt (redS_pw l) redS_lt hpi (partOf_nn hp0 redS_lt)
    have e := p1.unique r2
    exact ⟨⟨redS_pw l, redS_lt, by rw [hf]; exact e, by rw [p2, hf, e], rngOf _ redS_lt⟩, hf⟩
theorem parts_many (l : List Bd) : (partsF l).length ≤ l.length := by
  rw [partsF_eq, List.length_map]
  unfold heads
  exact Nat.le_trans (List.length_filter_le _ _) (by rw [List.length_range]; exact Nat.le_refl _)
theorem partOf_take {l : List Bd} {g : List Nat} {k x : Nat} (h : g[k]? = some x) : partOf l (g.take (k + 1)) = partOf l (g.take k) ++ [l.getD x bd0] := by
  unfold partOf; rw [List.take_add_one, h, List.map_append]; rfl
theorem lift_take {g c : List Nat} {k i : Nat} (h : c[k]? = some i) : lift g (c.take (k + 1)) = lift g (c.take k) ++ [g.getD i 0] := by
  unfold lift; rw [List.take_add_one, h, List.map_append]; rfl
theorem partOf_gen {K : Int} {l : List Bd} (h : Gen K l) {g : List Nat} (hl : ∀ x ∈ g, x < l.length) : Gen K (partOf l g) := fun x hx => by
  obtain ⟨j, hj, rfl⟩ := List.mem_map.1 hx
  rw [List.getD_eq_getElem?_getD, List.getElem?_eq_getElem (hl j hj)]
  exact h _ (List.getElem_mem _)
theorem own_take2 {c : List Nat} {k x : Nat} (h : c[k]? = some x) (f : Nat → Bool) : (c.take (k + 1)).filter f = (c.take k).filter f ++ if f x = true then [x] else [] := by
  rw [List.take_add_one, h, List.filter_append]
  congr 1
  by_cases e : f x = true
  · rw [if_pos e]; simp [e]
  · rw [if_neg e]; simp [e]
/-- the groups of the law: those of Parts, and what Reduce leaves -/
def grps (l : List Bd) : List (List Nat) := partsF l ++ [redS l]
set_option maxHeartbeats 16000000 in
set_option maxRecDepth 100000 in
theorem clearGroups_w (N : Int) (A : Option Addr) (n c : Nat) (l : List Int) (w : World) (h : Nums .i64 w A n c l) (hN1 : -9223372036854775808 ≤ N) (hN2 : N ≤ 9223372036854775807) :
    Calls Try.prog 11 #[.int .i64 N, .slice A n c] w (RetK w true) := by
  have hr := aroN_range N (m := 8) (by omega)
  have HL := Lib.hid (lots27_c N w hN1 hN2)
  obtain ⟨K, hK⟩ : ∃ K : Nat, 1 + aroN N 8 = K := ⟨(1 + aroN N 8).toNat, by omega⟩
  rw [hK] at HL
  have hK1 : 1 ≤ K := by omega
  have hK8 : K ≤ 8 := by omega
  clear hK hr
  have HB := Lib.hid (bids27_c K 9 A n c l w h hK1 hK8 (by omega))
  go_enter Try.func11, Try.ntmps11
  go_wp2_with fail
  refine HL.out.mono ?_
  rintro e w' ⟨rfl, rfl⟩
  go_wp2_with fail
  refine HB.out.mono ?_
  rintro e w1 ⟨lb, hlb, hgen, A1, n1, c1, q1, rfl, hR1, hq1, hE1⟩
  have hn1 : n1 ≤ 9 := by rw [← hR1.1, ← List.length_map (f := Prod.fst), hq1]; exact hlb
  have hbd1 := hR1.bids
  rw [hq1] at hbd1
  have h1000 := gen_1000 hgen (by omega) (by omega)
  have hpr := gen_pr hgen
  have hval : validS (K : Int) lb = 0 := gen_valid hgen (by omega) (by omega) (by omega)
  have hpos : ∀ x ∈ lb, 1 ≤ x.2.1 := fun x hx => (bidE_ok (hgen x hx).1).2.1
  have HG := Lib.hid (given_c _ _ _ _ _ hbd1 (by omega))
  clear HB HL hq1 hR1
  go_wp2_with fail
  refine HG.out.mono ?_
  rintro e w2 ⟨A2, n2, c2, q2, rfl, hR2, hq2, hE2⟩
  have hbd2 := hR2.bids
  rw [hq2] at hbd2
  have hn2 : n2 ≤ 9 := by rw [← hbd2.len]; exact hlb
  have hl2 := hbd2.len
  have hEw2 := hE1.trans hE2
  have HBe := Lib.hid (cBest_c (K : Int) _ _ _ _ _ hbd2 (by omega) (by omega))
  rw [show bestF (K : Int) lb = ((bestS lb).1, (bestS lb).2, 0) by rw [bestF, if_pos hval]] at HBe
  clear HG hR2 hq2 hbd1 hE1 hE2
  go_wp2_with fail
  refine HBe.out.mono ?_
  rintro e w3 ⟨A3, n3, c3, rfl, hO3, hE3⟩
  have HPa := Lib.hid (parts_c _ _ _ _ _ (hbd2.e hE3) (by omega) h1000)
  have hW3 := hO3.reads
  clear HBe
  go_wp2_with fail
  refine HPa.out.mono ?_
  rintro e w4 ⟨A4, n4, c4, q4, rfl, hG4, hq4, hE4⟩
  have HRe := Lib.hid (reduce_c _ _ _ _ _ ((hbd2.e hE3).e hE4) (by omega))
  clear HPa
  go_wp2_with fail
  refine HRe.out.mono ?_
  rintro e w5 ⟨A5, n5, c5, rfl, hO5, hE5⟩
  have hG5 := hG4.e hE5
  have hne5 : 0 < n5 → ob A5 ≠ ob A4 := fun h0 e => by
    cases ha : ob A5 with
    | none =>
      obtain ⟨b', o', e', _⟩ := hO5.reads.at_ h0
      rw [e'] at ha; cases ha
    | some b => rw [ha] at e; have := (hO5.ltN b ha).1; have := (hG4.ltN b e.symm).2; omega
  have hn4 : n4 ≤ 9 := by
    have := hG4.1
    have h2 : q4.length = (partsF lb).length := by have := congrArg List.length hq4; simpa using this
    have := parts_many lb
    omega
  have hb5 : w3.heap.size ≤ w5.heap.size := Nat.le_trans hE4.le hE5.le
  have hN5 := hO5.reads
  have hE35 := hE4.trans hE5
  have hbd3 := hbd2.e hE3
  have hEw3 := hEw2.trans hE3
  clear HRe hO5 hG4 hO3 hE3 hE4 hE5 hbd2 hEw2
  go_wp2_with (first | (refine wpList_appG _ rfl _ _ rfl w3.heap.size _ _ _ _ rfl hG5 (ints (redS lb), A5, n5, c5) rfl ⟨hN5, hne5⟩ (by omega) hb5 ?_; intro g' c6 w6 hG6 hGr6 hB6) | fail)
  have hrw6 := hG6.rows
  rw [List.map_append, hq4, show ((partsF lb).map ints ++ List.map Prod.fst [(ints (redS lb), A5, n5, c5)]) = (grps lb).map ints by unfold grps; rw [List.map_append]; rfl] at hrw6
  have hE36 : E w3 w6 := hE35.up hB6
  have hbd6 := hbd3.e hE36
  have hW6 := hW3.e hE36
  have hEw6 := hEw3.trans hE36
  obtain ⟨gf1, gf2, gf3⟩ := gf_all hpos
  have HGF := Lib.hid (show ∀ g ∈ grps lb, GF lb (bestS lb).1 g from fun g hg => by
    rcases List.mem_append.1 hg with h | h
    · exact gf1 g h
    · rw [List.mem_singleton.1 h]; exact gf2)
  have hp0 : ∀ x ∈ lb, 0 ≤ x.2.1 := fun x hx => by have := hpos x hx; omega
  have hopt := bestS_opt (pr_nn hp0)
  have hfz : feasZ lb (ints (bestS lb).1) = true := by rw [feasZ_srt hopt.1.1 hopt.1.2.1]; exact (apartB_iff lb _).2 hopt.1.2.2
  have hvz : valZ lb (ints (bestS lb).1) = (bestS lb).2 := by rw [valZ_ints _ hopt.1.2.1, hopt.2.1]
  have HSUM := Lib.hid (show ((partsF lb).map fun g => val lb ((bestS lb).1.filter fun x => g.contains x)).sum = (bestS lb).2 by rw [parts_val lb hopt.1.1 hopt.1.2.1, hopt.2.1])
  have HRED := Lib.hid (show val lb ((bestS lb).1.filter fun x => (redS lb).contains x) = (bestS lb).2 by rw [gf3, hopt.2.1])
  have HGE := Lib.hid hgen
  have HWL := Lib.hid (show (bestS lb).1.length = n3 by have := hW6.len; rwa [ints_len] at this)
  have hn3 : n3 ≤ 9 := by
    have := nodup_len (hopt.1.1.imp (fun h e => by omega)) hopt.1.2.1
    have := HWL.out
    omega
  have hvr := (bestS_range (l := lb) (by omega) hpr)
  obtain ⟨hv0, hv1, _⟩ := hvr
  have HPL := Lib.hid (show (partsF lb).length = n4 by have := hrw6.len; unfold grps at this; simp at this; omega)
  have HF := Lib.hid (bFeasible_c _ _ _ lb A3 n3 c3 _ w6 hbd6 hW6 (by omega) h1000)
  rw [hfz] at HF
  have HV := Lib.hid (fun W (hW : E w6 W) => bValue_c _ _ _ lb A3 n3 c3 _ W (hbd6.e hW) (hW6.e hW) (by omega) hpr)
  rw [hvz] at HV
  generalize (bestS lb).1 = win at *
  generalize (bestS lb).2 = v at *
  have H1000 := Lib.hid h1000
  clear hfz hvz hopt gf1 gf2 gf3 hp0 hpos h1000 hpr hgen hG6 hGr6 hB6 hG5 hq4 hne5 hN5 hE35 hbd3 hW3 hEw3 hb5 hval hE36
  refine HF.out.mono ?_
  rintro e w7 ⟨rfl, hE7⟩
  clear HF
  go_wp2_with fail
  refine (HV.out _ hE7).mono ?_
  rintro e w8 ⟨rfl, hE8⟩
  have e0 : (v != v) = false := by simp
  have hE68 := hE7.trans hE8
  have hbd8 := hbd6.e hE68
  have hW8 := hW6.e hE68
  have hrw8 := hrw6.e hE68
  have hEw8 := hEw6.trans hE68
  clear HV hE7 hE8 hE68 hbd6 hW6 hrw6 hEw6
  go_wp2_with fail
  go_loopw [11, 12] (fun t11 ti wr => ∃ (i : Nat) (s : Int), i ≤ n4 + 1 ∧ ti = .int .i64 i ∧ t11 = .int .i64 s ∧ E w8 wr ∧ 0 ≤ s ∧ s ≤ (i : Int) * 10995116277760 ∧ Hid (s = (((partsF lb).take i).map fun g => val lb (win.filter fun x => g.contains x)).sum)) (fun _ ti _ => n4 + 1 - (intOf ti).toNat)
  case atStart => exact ⟨0, 0, Nat.zero_le _, rfl, rfl, E.refl _, by omega, by omega, rfl⟩
  case round =>
    obtain ⟨i, s, hi, rfl, rfl, hE, hs0, hs1, hs⟩ := hrel
    by_cases hil : (i : Int) < ((n4 + 1 : Nat) : Int)
    · obtain ⟨b, o, g, A', n', c', e0', hb, hg, hc, hNg⟩ := rows_get (hrw8.e hE) (i := i) (by omega)
      injection e0' with e0'
      injection e0' with e0' e1'
      subst e0' e1'
      have hgf := HGF.out g (List.mem_of_getElem? hg)
      have HGL := Lib.hid (show g.length = n' by have := hNg.len; rwa [ints_len] at this)
      have hn' : n' ≤ 9 := by
        have := nodup_len (hgf.pw.imp (fun h e => by omega)) hgf.lt
        have := HGL.out
        omega
      have HGFg := Lib.hid hgf
      have HGI := Lib.hid hg
      obtain ⟨wi, hwi⟩ : ∃ wi, wi = wr := ⟨_, rfl⟩
      subst hwi
      have hbdi := hbd8.e hE
      have hWi := hW8.e hE
      clear hgf hg
      replace hc : wi.cell? ⟨g', i, none⟩ = some (.slice A' n' c') := by simpa using hc
      go_wp2_with fail
      go_loopw [13, 14] (fun t13 tj wr => ∃ (j c13 : Nat) (A13 : Option Addr) (q : List (Bd × Sl)), j ≤ n' ∧ tj = .int .i64 j ∧ t13 = .slice A13 j c13 ∧ BRow 50 wr wi.heap.size A13 j c13 q ∧ E wi wr ∧ Hid (q.map Prod.fst = partOf lb (g.take j))) (fun _ tj _ => n' - (intOf tj).toNat)
      case atStart => exact ⟨0, 0, none, [], Nat.zero_le _, rfl, rfl, BRow.nil _ _ _, E.refl _, rfl⟩
      case round =>
        obtain ⟨j, c13, A13, q, hj, rfl, rfl, hR, hEj, hq⟩ := hrel
        have hcr := (hEj.cell (p := ⟨g', i, none⟩) hb).trans hc
        by_cases hjl : (j : Int) < (n' : Int)
        · obtain ⟨bg, og, y, rfl, hbg, hy, hwy, hcy⟩ := hNg.get (i := j) (by omega)
          obtain ⟨ya, hya, rfl⟩ : ∃ ya : Nat, g[j]? = some ya ∧ (ya : Int) = y := by
            rw [ints, List.getElem?_map] at hy
            cases e : g[j]? with
            | none => rw [e] at hy; simp at hy
            | some z => rw [e] at hy; exact ⟨z, rfl, by simpa using hy⟩
          have hyn : ya < n2 := by have := HGFg.out.lt ya (List.mem_of_getElem? hya); omega
          obtain ⟨bb, ob', x, Ax, nx, cx, rfl, hbb, hx, hv1', hv2', hNx, hcs⟩ := hbdi.item hyn
          have hgx : lb.getD ya bd0 = x := by rw [List.getD_eq_getElem?_getD, hx]; rfl
          have HQ := Lib.hid (show partOf lb (g.take (j + 1)) = partOf lb (g.take j) ++ [x] by rw [partOf_take hya, hgx])
          have hcyr := (hEj.cell (p := ⟨bg, og + j, none⟩) hbg).trans hcy
          obtain ⟨p1, p2, p3⟩ := hcs wr hEj
          have hyI : (ya : Int) < (n2 : Int) := by omega
          have hne : 0 < nx → ob Ax ≠ ob A13 := fun h0 e => by
            obtain ⟨b', o'', e', hlt, _⟩ := hNx.at_ h0
            rw [e'] at e
            have := (hR.ltN b' e.symm).1
            omega
          have hle := hEj.le
          have hNxr := hNx.e hEj
          obtain ⟨xb, xp, xl⟩ := x
          simp only at *
          clear hx hgx hy hwy hcs
          go_wp2_with (first | (refine wpList_appBd bidT _ rfl _ _ rfl wi.heap.size _ _ _ _ rfl hR ((xb, xp, xl), Ax, nx, cx) rfl ⟨hv1', hv2', hNxr, hne⟩ (by omega) hle ?_; intro g2 c2' w9 hR9 hG9 hB9 hor9) | fail)
          exact ⟨⟨j + 1, c2', _, _, by omega, by go_num, rfl, hR9, hEj.up hB9, show _ = _ by rw [List.map_append, hq.out, HQ.out]; rfl⟩, by simp [intOf]; omega⟩
        · have hjn : j = n' := by omega
          subst hjn
          have hgt : g.take j = g := List.take_of_length_le (by have := HGL.out; omega)
          have hbp := hR.bids
          rw [hq.out, hgt] at hbp
          have hvp : validS (K : Int) (partOf lb g) = 0 := gen_valid (partOf_gen HGE.out HGFg.out.lt) (by omega) (by omega) (by unfold partOf; simp; have := HGL.out; omega)
          have HBp := Lib.hid (cBest_c (K : Int) _ _ _ _ wr hbp (by omega) (by omega))
          rw [show bestF (K : Int) (partOf lb g) = ((bestS (partOf lb g)).1, (bestS (partOf lb g)).2, 0) by rw [bestF, if_pos hvp]] at HBp
          have hbr := bestS_range (l := partOf lb g) (by unfold partOf; simp; have := HGL.out; omega) (pr_of_valid hvp)
          have hgot := HGFg.out.got
          have hvl := HGFg.out.vl
          have HRG := Lib.hid HGFg.out.rng
          generalize (bestS (partOf lb g)).2 = wv at *
          generalize (bestS (partOf lb g)).1 = own at *
          obtain ⟨hw0, hw1, _⟩ := hbr
          have HGOT := Lib.hid hgot
          have HVL := Lib.hid hvl
          clear hgt hbp hvp hq hR hgot hvl
          go_wp2_with fail
          refine HBp.out.mono ?_
          rintro e w9 ⟨A9, n9, c9, rfl, hO9, hE9⟩
          have hEi9 := hEj.trans hE9
          have hN9 := hO9.reads
          have HOL := Lib.hid (show own.length = n9 by have := hO9.1; rwa [ints_len] at this)
          have hn9 : n9 ≤ 9 := by
            have h1 := congrArg List.length HGOT.out
            unfold lift at h1
            rw [List.length_map] at h1
            have := List.length_filter_le (fun x => g.contains x) win
            have := HOL.out
            have := HWL.out
            omega
          have hN9i := hWi.e hEi9
          have hNg9 := hNg.e hEi9
          have hc9' := (hEi9.cell (p := ⟨g', i, none⟩) hb).trans hc
          have hb9 : g' < w9.heap.size := Nat.lt_of_lt_of_le hb hEi9.le
          clear HBp hE9 hEj hO9 hcr
          go_wp2_with fail
          go_loopw [18, 19] (fun t18 tk wr => ∃ (k mk c18 : Nat) (A18 : Option Addr), k ≤ n3 ∧ tk = .int .i64 k ∧ t18 = .slice A18 mk c18 ∧ Own .i64 3 wr w9.heap.size A18 mk c18 (ints ((win.take k).filter fun x => g.contains x)) ∧ E w9 wr ∧ mk ≤ k) (fun _ tk _ => n3 - (intOf tk).toNat)
          case atStart => exact ⟨0, 0, 0, none, Nat.zero_le _, rfl, rfl, Own.nil _ _ _ _, E.refl _, Nat.le_refl _⟩
          case round =>
            obtain ⟨k, mk, c18, A18, hk, rfl, rfl, hO, hEk, hmk⟩ := hrel
            have hcr := (hEk.cell (p := ⟨g', i, none⟩) hb9).trans hc9'
            by_cases hkl : (k : Int) < (n3 : Int)
            · obtain ⟨b4, o4, x, rfl, hb4, hx, hwx, hcx⟩ := (hN9i.e hEk).get (i := k) (by omega)
              obtain ⟨xa, hxa, rfl⟩ : ∃ xa : Nat, win[k]? = some xa ∧ (xa : Int) = x := by
                rw [ints, List.getElem?_map] at hx
                cases e : win[k]? with
                | none => rw [e] at hx; simp at hx
                | some z => rw [e] at hx; exact ⟨z, rfl, by simpa using hx⟩
              have HH := Lib.hid (fun W (hW : E wr W) => has1_c A' j c' (ints g) (xa : Int) W ((hNg9.e hEk).e hW))
              rw [contains_ints] at HH
              have HOT := Lib.hid (own_take2 hxa fun x => g.contains x)
              clear hx hxa
              cases hgc : g.contains xa
              · rw [hgc] at HH
                have HK := Lib.hid (show (win.take (k + 1)).filter (fun x => g.contains x) = (win.take k).filter fun x => g.contains x by rw [HOT.out, hgc]; simp)
                clear hgc HOT
                go_wp2_with fail
                go_still_tail 8, (by kernel_rfl)
                go_wp2_with fail
                refine (HH.out _ ((E.refl wr).drew)).mono ?_
                rintro e w10 ⟨rfl, hE10⟩
                have hE110 := ((E.refl wr).drew).trans hE10
                go_wp2_with fail
                exact ⟨⟨k + 1, mk, c18, _, by omega, by go_num, rfl, by rw [HK.out]; exact hO.e hE110, hEk.trans hE110, by omega⟩, by simp [intOf]; omega⟩
              · rw [hgc] at HH
                have HK := Lib.hid (show (win.take (k + 1)).filter (fun x => g.contains x) = ((win.take k).filter fun x => g.contains x) ++ [xa] by rw [HOT.out, hgc]; simp)
                clear hgc HOT
                go_wp2_with fail
                go_still_tail 8, (by kernel_rfl)
                go_wp2_with fail
                refine (HH.out _ ((E.refl wr).drew)).mono ?_
                rintro e w10 ⟨rfl, hE10⟩
                have hE110 := ((E.refl wr).drew).trans hE10
                have hO10 := hO.e hE110
                have hcx10 := (hE110.cell (p := ⟨b4, o4 + k, none⟩) hb4).trans hcx
                have hle10 := Nat.le_trans hEk.le hE110.le
                clear hE10 hO hcx
                go_wp2_with (first | (refine wpList_app1n intTk _ rfl _ _ rfl w9.heap.size _ _ _ _ rfl hO10 (xa : Int) rfl hwx (by omega) hle10 ?_; intro g2 c2' w11 hO11 hG11 hB11 _) | fail)
                exact ⟨⟨k + 1, mk + 1, c2', _, by omega, by go_num, rfl, by rw [HK.out, ints_app]; exact hO11, (hEk.trans hE110).up hB11, by omega⟩, by simp [intOf]; omega⟩
            · have hwt : win.take k = win := List.take_of_length_le (by have := HWL.out; omega)
              rw [hwt] at hO
              clear hwt
              obtain ⟨wk, hwk⟩ : ∃ wk, wk = wr := ⟨_, rfl⟩
              subst hwk
              have hNk := hN9.e hEk
              have hNgk := hNg9.e hEk
              have hbk : g' < wk.heap.size := Nat.lt_of_lt_of_le hb9 hEk.le
              have hNO := hO.reads
              have hEik := hEi9.trans hEk
              clear hO hN9i hN9 hNg9 hc9' hEk
              go_wp2_with fail
              go_loopw [20, 21] (fun t20 tk wr => ∃ (t c20 : Nat) (A20 : Option Addr), t ≤ n9 ∧ tk = .int .i64 t ∧ t20 = .slice A20 t c20 ∧ Own .i64 3 wr wk.heap.size A20 t c20 (ints (lift g (own.take t))) ∧ E wk wr) (fun _ tk _ => n9 - (intOf tk).toNat)
              case atStart => exact ⟨0, 0, none, Nat.zero_le _, rfl, rfl, Own.nil _ _ _ _, E.refl _⟩
              case round =>
                obtain ⟨t, c20, A20, ht, rfl, rfl, hO, hEt⟩ := hrel
                have hcrt := (hEt.cell (p := ⟨g', i, none⟩) hbk).trans hcr
                by_cases htl : (t : Int) < (n9 : Int)
                · obtain ⟨b9, o9, x, rfl, hb9', hx, hwx, hcx⟩ := hNk.get (i := t) (by omega)
                  obtain ⟨xa, hxa, rfl⟩ : ∃ xa : Nat, own[t]? = some xa ∧ (xa : Int) = x := by
                    rw [ints, List.getElem?_map] at hx
                    cases e : own[t]? with
                    | none => rw [e] at hx; simp at hx
                    | some z => rw [e] at hx; exact ⟨z, rfl, by simpa using hx⟩
                  have hxj : xa < j := by have := HRG.out xa (List.mem_of_getElem? hxa); have := HGL.out; omega
                  obtain ⟨bg, og, y, rfl, hbg, hy, hwy, hcy⟩ := hNgk.get (i := xa) (by omega)
                  have hyg : y = ((g.getD xa 0 : Nat) : Int) := by
                    rw [ints, List.getElem?_map] at hy
                    cases e : g[xa]? with
                    | none => rw [e] at hy; simp at hy
                    | some z => rw [e] at hy; rw [List.getD_eq_getElem?_getD, e]; simpa using hy.symm
                  have HLT := Lib.hid (show ints (lift g (own.take (t + 1))) = ints (lift g (own.take t)) ++ [y] by rw [lift_take hxa, ints_app, hyg])
                  have hcxr := (hEt.cell (p := ⟨b9, o9 + t, none⟩) hb9').trans hcx
                  have hcyr := (hEt.cell (p := ⟨bg, og + xa, none⟩) hbg).trans hcy
                  have hxI : (xa : Int) < (j : Int) := by omega
                  have hx0 : (0 : Int) ≤ (xa : Int) := by omega
                  have hlet := hEt.le
                  have s1 : g' < wr.heap.size := Nat.lt_of_lt_of_le hbk hEt.le
                  have s2 : b9 < wr.heap.size := Nat.lt_of_lt_of_le hb9' hEt.le
                  have s3 : bg < wr.heap.size := Nat.lt_of_lt_of_le hbg hEt.le
                  clear hx hxa hwx hy hyg
                  go_upto_region 29 with fail
                  have d0 : decide ((xa : Int) < 0) = false := by simp
                  have d1 : decide ((j : Int) ≤ (xa : Int)) = false := by simp; omega
                  go_quiet (fail)
                  have hEd : E wr (wr.drewN nq) := (E.refl _).drewN _
                  have hOd := hO.e hEd
                  have kcr := (hEd.cell (p := ⟨g', i, none⟩) s1).trans hcrt
                  have kcx := (hEd.cell (p := ⟨b9, o9 + t, none⟩) s2).trans hcxr
                  have kcy := (hEd.cell (p := ⟨bg, og + xa, none⟩) s3).trans hcyr
                  have hEkd := hEt.trans hEd
                  have hled := hEkd.le
                  clear hO hcrt hcxr hcyr hEt hEd hlet s1 s2 s3 d0 d1
                  generalize wr.drewN nq = wd at *
                  go_upto_region 31 with fail
                  have hOdd := hOd.e ((E.refl wd).drew)
                  go_region_held3 (fun w' => wk.heap.size ≤ w'.heap.size ∧ ∀ b o, b < wk.heap.size → w'.cell? ⟨b, o, none⟩ = wd.cell? ⟨b, o, none⟩) (first | exact ⟨hled, fun _ _ _ => rfl⟩ | exact sKeepK2 (by assumption) ((E.refl _).alloc _) | exact sKeepB' (by assumption) (by assumption))
                    ((refine step_app1 intTk (by rfl) _ _ (by rfl) wk.heap.size _ _ _ _ (by rfl) (hOd.e (by first | exact ((E.refl _).alloc _).drewN _ | exact ((E.refl _).alloc _).drew)) _ _ (by rfl) (cell_new _ _ _) hwy (by omega) (by simp; omega) ?_; intro g2 c2' w11 hO11 hG11 hB11))
                  all_goals
                    have hB12 : Below wk.heap.size wd w11 := ((Below.refl _ _).alloc hled _).trans ⟨hB11.os, hB11.tape, hB11.output, hB11.size, hB11.block⟩
                    go_wp2_with fail
                    exact ⟨⟨t + 1, c2', _, by omega, by go_num, rfl, by rw [HLT.out]; exact hO11, hEkd.up hB12⟩, by simp [intOf]; omega⟩
                · have hot : own.take t = own := List.take_of_length_le (by have := HOL.out; omega)
                  rw [hot, HGOT.out] at hO
                  have HSa := Lib.hid (sameInts_e _ _ _ _ _ _ _ _ wr hO.reads (hNO.e hEt))
                  rw [sameB_self] at HSa
                  have hE8t := (hE.trans hEik).trans hEt
                  clear hot hO
                  by_cases hi4 : i < n4
                  · have hi4I : (i : Int) + 1 < ((n4 + 1 : Nat) : Int) := by omega
                    have HS := Lib.hid (show s + wv = (((partsF lb).take (i + 1)).map fun g => val lb (win.filter fun x => g.contains x)).sum by
                      have hgi : (partsF lb)[i]? = some g := by
                        have := HGI.out
                        unfold grps at this
                        rwa [List.getElem?_append_left (by have := HPL.out; omega)] at this
                      rw [List.take_add_one, hgi, hs.out, List.map_append, List.sum_append, HVL.out]; simp)
                    clear hs
                    go_wp2_with fail
                    refine HSa.out.mono ?_
                    rintro e w12 ⟨rfl, hE12⟩
                    go_wp2_with fail
                    exact ⟨⟨i + 1, s + wv, by omega, by go_num, rfl, hE8t.trans hE12, by omega, by omega, HS.out⟩, by simp [intOf]; omega⟩
                  · have hie : i = n4 := by omega
                    have hi4I : ¬ (i : Int) + 1 < ((n4 + 1 : Nat) : Int) := by omega
                    have hwv : wv = v := by
                      have hgi : g = redS lb := by
                        have := HGI.out
                        unfold grps at this
                        rw [List.getElem?_append_right (by have := HPL.out; omega), show i - (partsF lb).length = 0 by have := HPL.out; omega] at this
                        simp at this; exact this.symm
                      rw [HVL.out, hgi]; exact HRED.out
                    have HS := Lib.hid (show s = (((partsF lb).take (i + 1)).map fun g => val lb (win.filter fun x => g.contains x)).sum by
                      rw [hs.out, List.take_of_length_le (by have := HPL.out; omega), List.take_of_length_le (by have := HPL.out; omega)])
                    have HIE := Lib.hid hie
                    subst hwv
                    clear hs hie
                    go_wp2_with fail
                    refine HSa.out.mono ?_
                    rintro e w12 ⟨rfl, hE12⟩
                    go_wp2_with fail
                    exact ⟨⟨i + 1, s, by omega, by go_num, rfl, hE8t.trans hE12, hs0, by omega, HS.out⟩, by simp [intOf]; omega⟩
    · have hsv : s = v := by rw [hs.out, List.take_of_length_le (by have := HPL.out; omega)]; exact HSUM.out
      have HSV := Lib.hid hsv
      have d0 : (s == v) = true := by rw [hsv]; simp
      have HLi := Lib.hid (lives28_c wr)
      clear hsv hs
      go_wp2_with fail
      refine HLi.out.mono ?_
      rintro e w9 ⟨rfl, hE9⟩
      go_wp2_with fail
      go_ret
      exact ⟨by first | rfl | simp [HSV.out], (hEw8.trans hE).trans hE9⟩
end Go.Proofs.Ytpbkfpkgbfifaaa
