/- Lemmas of the claim, joined: LawPa. No condition. -/
import Derived.Test.YtgbamgijpgjmgaaBL
import Derived.Test.YtgbamgijpgjmgaaBM
/- LotsParts. -/
namespace Go.Proofs.Ytgbamgijpgjmgaa
open Go.RowKit Go.Shelf

theorem same_of' {l1 l2 : List Lt} (h : l1 = l2) (A1 A2 : Option Addr) (n1 c1 n2 c2 : Nat) (w : World) (h1 : LotsAt w A1 n1 c1 l1) (h2 : LotsAt w A2 n2 c2 l2) : Calls Try.prog 18 #[.slice A1 n1 c1, .slice A2 n2 c2] w (RetK w true) := by
  subst h
  exact same_self A1 A2 n1 c1 n2 c2 l1 w h1 h2
theorem total_of {l : List Lt} {t : Int} (h : totalS l = t) (A : Option Addr) (n c : Nat) (w : World) (h1 : LotsAt w A n c l) : Calls Try.prog 24 #[.slice A n c] w (RetN w t) := by
  rw [← h]
  exact total_c A n c l w h1
theorem take_of {l : List Lt} {m : Int} {mixed : Bool} {r : List Lt × List Lt × Int} (h : takeS l m mixed = r) (A : Option Addr) (n c : Nat) (w : World) (h1 : LotsAt w A n c l) : Calls Try.prog 16 #[.slice A n c, .int .i64 m, .bool mixed] w (RetTk w r) := by
  subst h
  exact take_c m mixed A n c l w h1
theorem puts_take {two one : List Lt} {i : Nat} {x : Lt} (h : two[i]? = some x) : putS ((two.take i).foldl putS one) x = (two.take (i + 1)).foldl putS one := by rw [List.take_add_one, h, List.foldl_append]; rfl
set_option maxHeartbeats 16000000 in
set_option maxRecDepth 100000 in
theorem lotsParts_w (m k : Int) (mixed : Bool) (Aa : Option Addr) (na ca : Nat) (la : List Int) (w : World) (ha : Nums .i64 w Aa na ca la) (m1 : -9223372036854775808 ≤ m) (m2 : m ≤ 9223372036854775807) (k1 : -9223372036854775808 ≤ k) (k2 : k ≤ 9223372036854775807) :
    Calls Try.prog 7 #[.slice Aa na ca, .int .i64 m, .int .i64 k, .bool mixed] w fun e w' => e = .returned (.bool true) ∧ E w w' := by
  have HG1 := Lib.hid (lots14_c 0 Aa na ca la w ha (by omega))
  clear ha
  go_enter Try.func7, Try.ntmps7
  go_wp2_with fail
  refine HG1.out.mono ?_
  rintro e w1 ⟨q, hlq, hgq, A0, n0, c0, rfl, hO0, hE0⟩
  have hvq := genL_valid hgq hlq
  have hpq := (validB_iff.1 hvq).2
  obtain ⟨g1, g2, g3, _⟩ := setP q hpq
  have hls : lset q = setS q := by rw [lset, hvq]; rfl
  have HS := Lib.hid (lSet_c A0 n0 c0 q w1 hO0.reads)
  rw [hls] at HS
  generalize setS q = s at *
  have hvs : validB s = true := validB_iff.2 ⟨by omega, g3⟩
  have hl7 : s.length ≤ 7 := by omega
  clear hO0 hgq hvq hpq hls g2 hlq HG1
  go_wp2_with fail
  refine HS.out.mono ?_
  rintro e w2 ⟨A1, n1, c1, rfl, hO1, hE1⟩
  replace hE0 := hE0.trans hE1
  have Rs := hO1.reads
  have hn1 : s.length = n1 := hO1.1
  clear HS hE1 hO1
  have htot := tot_valid hvs
  have htL : totalS s = totL s := by rw [totalS, hvs]; rfl
  have htr := tot_range (l := s)
  have HT := Lib.hid (fun W (h : LotsAt W A1 n1 c1 s) => total_c A1 n1 c1 s W h)
  obtain ⟨T, hT⟩ : ∃ T, totalS s = T := ⟨_, rfl⟩
  rw [hT] at htot htL htr HT
  by_cases hz : T = 0
  · subst hz
    have hs0 : s = [] := by
      cases s with
      | nil => rfl
      | cons x s =>
        have := g1.glued.pos
        rw [U_cons, List.length_append, ul_len] at htot
        omega
    obtain rfl : n1 = 0 := by rw [← hn1, hs0]; rfl
    clear hs0 hn1 htot htL htr hT g1 g3 hvs hl7
    go_wp2_with fail
    refine (HT.out _ Rs).mono ?_
    rintro e w3 ⟨rfl, hE3⟩
    go_wp2_with fail
    refine (lives14_c _).mono ?_
    rintro e w4 ⟨rfl, hE4⟩
    go_wp2_with fail
    go_ret
    exact ⟨rfl, (hE0.trans hE3).trans hE4⟩
  · have hzI : (T == 0) = false := by simpa using hz
    go_wp2_with fail
    refine (HT.out _ Rs).mono ?_
    rintro e w3 ⟨rfl, hE3⟩
    replace Rs := Rs.e hE3
    replace hE0 := hE0.trans hE3
    clear hE3
    obtain ⟨p, hp⟩ : ∃ p, min T 1099511627776 = p := ⟨_, rfl⟩
    have HMIN := Lib.hid hp
    have HIF := Lib.hid (show (if 1099511627776 < T then 1099511627776 else T) = p by split <;> omega)
    have hp1 : 1 ≤ p ∧ p ≤ 1099511627776 ∧ p ≤ T := by omega
    have HA := Lib.hid (fun W => aroundR m (p + 1) W m1 m2 (by omega) (by omega))
    have ha0 := Int.emod_nonneg m (show p + 1 ≠ 0 by omega)
    have ha1 := Int.emod_lt_of_pos m (show 0 < p + 1 by omega)
    generalize m % (p + 1) = a at *
    have hwp : IntKind.i64.wrap (p + 1) = p + 1 := by rw [IntKind.wrap_i64]; omega
    have HF := take_facts (mixed := mixed) hvs ha0 (by omega) (show a ≤ totL s by omega)
    have HHA := Lib.hid (And.intro ha0 (And.intro ha1 (And.intro hp1 (And.intro htot (And.intro htL htr)))))
    have HNod := Lib.hid (srt_nodup g1.srt)
    have HCan := Lib.hid g1
    have HVS := Lib.hid hvs
    have HTS := Lib.hid hT
    have HL7 := Lib.hid hl7
    clear hp htot htL htr hz hzI HT g1 g3 hT
    go_wp2_with fail
    first | rw [HMIN.out] | rw [HIF.out]
    refine (HA.out _).mono ?_
    rintro e w4 ⟨rfl, rfl⟩
    obtain ⟨r, hr⟩ : ∃ r, takeS s a mixed = r := ⟨_, rfl⟩
    rw [hr] at HF
    obtain ⟨r1, r2, r3⟩ := r
    obtain rfl : r3 = 0 := HF.e
    have HR := Lib.hid hr
    have f1 := HF.v1
    have f2 := HF.v2
    have f3 := HF.l1
    have f4 := HF.l2
    simp only at f1 f2 f3 f4
    have f5 := HF.apart HNod.out
    have f6 := HF.whole HCan.out
    have f7 := HF.tots HVS.out
    simp only at f5 f6 f7
    rw [HTS.out] at f7
    have HFF := Lib.hid (And.intro f5 (And.intro f6 f7))
    have hwr : IntKind.i64.wrap (T - a) = T - a := by have := HHA.out.2.2.2.2.2; rw [IntKind.wrap_i64]; omega
    have hwb : IntKind.i64.wrap (a + 1) = a + 1 := by rw [IntKind.wrap_i64]; omega
    clear hr f5 f6 f7 HF
    go_wp2_with fail
    refine (take_of HR.out A1 n1 c1 _ Rs).mono ?_
    rintro e v1 ⟨Ax, nx, cx, Ay, ny, cy, rfl, hOx, hOy, hEv⟩
    have Rx := hOx.reads
    have hlx := hOx.1
    have Ry := hOy.reads
    have hly := hOy.1
    clear hOx hOy
    replace Rs := Rs.e hEv
    replace hE0 := hE0.trans hEv
    clear hEv
    go_wp2_with fail
    refine (total_of HFF.out.2.2.1 _ _ _ _ Rx).mono ?_
    rintro e v2 ⟨rfl, hEv⟩
    replace Rs := Rs.e hEv
    replace Rx := Rx.e hEv
    replace Ry := Ry.e hEv
    replace hE0 := hE0.trans hEv
    clear hEv
    go_wp2_with fail
    refine (total_of HFF.out.2.2.2 _ _ _ _ Ry).mono ?_
    rintro e v3 ⟨rfl, hEv⟩
    replace Rs := Rs.e hEv
    replace Rx := Rx.e hEv
    replace Ry := Ry.e hEv
    replace hE0 := hE0.trans hEv
    clear hEv
    have bx : nx ≤ 7 := by omega
    have by_ : ny ≤ 7 := by omega
    have Hm := Lib.hid (fun W (h1 : LotsAt W Ax nx cx r1) (h2 : LotsAt W Ay ny cy r2) => lMeet_c Ax nx cx r1 Ay ny cy r2 W h1 h2 (by omega) (by omega))
    rw [HFF.out.1] at Hm
    clear hlx hly
    go_wp2_with fail
    refine (Hm.out _ Rx Ry).mono ?_
    rintro e v4 ⟨Am, nm, cm, rfl, hOm, hEv⟩
    have Rm := hOm.reads
    have hlm := hOm.1
    obtain rfl : nm = 0 := hlm.symm
    clear hlm
    clear hOm
    replace Rs := Rs.e hEv
    replace Rx := Rx.e hEv
    replace Ry := Ry.e hEv
    replace hE0 := hE0.trans hEv
    clear hEv
    go_wp2_with fail
    refine (lUnion_c Ax nx cx r1 Ay ny cy r2 _ Rx Ry).mono ?_
    rintro e v5 ⟨Au, nu, cu, rfl, hOu, hEv⟩
    have Ru := hOu.reads
    have hlu := hOu.1
    clear hlu
    rw [HFF.out.2.1] at Ru
    clear hOu
    replace Rs := Rs.e hEv
    replace Rx := Rx.e hEv
    replace Ry := Ry.e hEv
    replace hE0 := hE0.trans hEv
    clear hEv
    go_wp2_with fail
    refine (same_self _ _ _ _ _ _ _ _ Ru Rs).mono ?_
    rintro e v6 ⟨rfl, hEv⟩
    replace Rs := Rs.e hEv
    replace Rx := Rx.e hEv
    replace Ry := Ry.e hEv
    replace Ru := Ru.e hEv
    replace hE0 := hE0.trans hEv
    clear hEv
    clear Ru Rx Ry bx by_
    have HB := Lib.hid (fun W => aroundR k (a + 1) W k1 k2 (by omega) (by omega))
    have hb0 := Int.emod_nonneg k (show a + 1 ≠ 0 by omega)
    have hb1 := Int.emod_lt_of_pos k (show 0 < a + 1 by omega)
    generalize k % (a + 1) = b at *
    go_wp2_with fail
    refine (HB.out _).mono ?_
    rintro e w5 ⟨rfl, rfl⟩
    obtain ⟨i1, i2, i3, i4, i5, i6⟩ := HHA.out
    have hus : ((U s).length : Int) = T := i4.symm
    have t1 := takeS_first (a := b) HVS.out hb0 (by omega) (by omega)
    have t2 := takeS_first (a := a) HVS.out i1 (by omega) (by omega)
    have F1 := take_facts (mixed := false) (a := b) HVS.out hb0 (by omega) (by omega)
    rw [t1] at F1
    have v1 := F1.v1
    have v2 := F1.v2
    have l1 := F1.l1
    have l2 := F1.l2
    have tr := (F1.tots HVS.out).2
    simp only at v1 v2 l1 l2 tr
    have htl : totL (glue ((U s).drop b.toNat)) = T - b := by
      rw [← HTS.out, ← tr, totalS, v2]; rfl
    have t3 := takeS_first (a := a - b) v2 (by omega) (by omega) (by omega)
    have hne : (a - b).toNat = a.toNat - b.toNat := by omega
    obtain ⟨st1, st2⟩ := two_steps (U s) (a := a.toNat) (b := b.toNat) (by omega)
    rw [U_glue, hne, st2] at t3
    have F3 := take_facts (mixed := false) (a := a - b) v2 (by omega) (by omega) (by omega)
    have l3 := F3.l1
    rw [t3] at l3
    simp only at l3
    have hv3 := F3.v1
    rw [t3] at hv3
    simp only at hv3
    have hpu := puts_eq (l := glue (((U s).drop b.toNat).take (a.toNat - b.toNat))) v1 (validB_iff.1 hv3).2 (by omega)
    have hput : (glue (((U s).drop b.toNat).take (a.toNat - b.toNat))).foldl putS (glue ((U s).take b.toNat)) = glue ((U s).take a.toNat) := by
      rw [hpu.1, put_glue (fun x hx => by have := possB_iff.1 ((validB_iff.1 hv3).2 x hx); omega), U_glue, st1]
    have HT1 := Lib.hid t1
    have HT2 := Lib.hid t2
    have HT3 := Lib.hid t3
    have HPut := Lib.hid hput
    have hwab : IntKind.i64.wrap (a - b) = a - b := by rw [IntKind.wrap_i64]; omega
    have HLL := Lib.hid (And.intro l1 (And.intro l2 l3))
    clear t1 t2 t3 F1 F3 v1 v2 l1 l2 l3 tr htl hne st1 st2 hv3 hpu hput i1 i2 i3 i4 i5 i6 hus
    go_wp2_with fail
    refine (take_of HT1.out A1 n1 c1 _ Rs).mono ?_
    rintro e v7 ⟨Ax, nx, cx, Ay, ny, cy, rfl, hOx, hOy, hEv⟩
    have Rx := hOx.reads
    have hlx := hOx.1
    have Ry := hOy.reads
    have hly := hOy.1
    clear hOx hOy
    replace Rs := Rs.e hEv
    replace hE0 := hE0.trans hEv
    clear hEv
    clear hlx hly
    go_wp2_with fail
    refine (take_of HT3.out Ay ny cy _ Ry).mono ?_
    rintro e v8 ⟨Az, nz, cz, At, nt, ct, rfl, hOz, hOt, hEv⟩
    have Rz := hOz.reads
    have hlz := hOz.1
    have Rt := hOt.reads
    have hlt := hOt.1
    clear hOz hOt
    replace Rs := Rs.e hEv
    replace Rx := Rx.e hEv
    replace Ry := Ry.e hEv
    replace hE0 := hE0.trans hEv
    clear hEv
    clear hlz hlt
    clear Ry
    go_wp2_with fail
    refine (take_of HT2.out A1 n1 c1 _ Rs).mono ?_
    rintro e v9 ⟨Ap, np, cp, Ao, no, co, rfl, hOp, hOo, hEv⟩
    have Rp := hOp.reads
    have hlp := hOp.1
    have Ro := hOo.reads
    have hlo := hOo.1
    clear hOp hOo
    replace Rs := Rs.e hEv
    replace Rx := Rx.e hEv
    replace Rz := Rz.e hEv
    replace Rt := Rt.e hEv
    replace hE0 := hE0.trans hEv
    clear hEv
    clear hlp hlo
    generalize glue (((U s).drop b.toNat).take (a.toNat - b.toNat)) = two at *
    have hzl := Rz.len
    have hm63 := Rz.n63
    have HZ := Lib.hid (And.intro Rz (And.intro Rt (And.intro Rp Ro)))
    have HE0 := Lib.hid hE0
    have HEnd := Lib.hid (show (two.take nz).foldl putS (glue ((U s).take b.toNat)) = glue ((U s).take a.toNat) by rw [List.take_of_length_le (l := two) (by omega)]; exact HPut.out)
    have HX := Lib.hid Rx
    clear hzl Rz Rt Rp Ro Rx Rs hE0
    go_wp2_with fail
    go_loopw [25, 26] (fun t5 ti wr => ∃ (i n5 c5 : Nat) (A5 : Option Addr), i ≤ nz ∧ ti = .int .i64 i ∧ t5 = .slice A5 n5 c5 ∧ LotsAt wr A5 n5 c5 ((two.take i).foldl putS (glue ((U s).take b.toNat))) ∧ E v9 wr) (fun _ ti _ => nz - (intOf ti).toNat)
    case atStart => exact ⟨0, _, _, _, by omega, rfl, rfl, HX.out, E.refl _⟩
    case round =>
      obtain ⟨i, n5, c5, A5, hi, rfl, rfl, hR, hE⟩ := hrel
      by_cases hlt : i < nz
      · obtain ⟨bz, oz, x, rfl, hb, hx, hwx, d0, d1, d2⟩ := (HZ.out.1.e hE).get hlt
        have hiI : (i : Int) < (nz : Int) := by omega
        have HP := Lib.hid (lPut_c x A5 n5 c5 _ wr hR hwx)
        rw [puts_take hx] at HP
        obtain ⟨xf, xa, xn⟩ := x
        simp only at d0 d1 d2
        unfold ltV at HP
        clear hx hR
        go_wp2_with fail
        refine HP.out.mono ?_
        rintro e w8 ⟨A6, n6, c6, rfl, hO6, hE6⟩
        go_wp2_with fail
        go_roundw
        case rel => exact ⟨i + 1, n6, c6, A6, by omega, by go_num, rfl, hO6.reads, hE.trans hE6⟩
        case measure => simp [intOf]; omega
      · have hin : i = nz := by omega
        subst hin
        rw [HEnd.out] at hR
        have Rp := HZ.out.2.2.1.e hE
        have Rt := HZ.out.2.1.e hE
        have Ro := HZ.out.2.2.2.e hE
        have hE0 := HE0.out.trans hE
        clear hE
        go_wp2_with fail
        refine (same_self _ _ _ _ _ _ _ _ hR Rp).mono ?_
        rintro e v10 ⟨rfl, hEv⟩
        replace hR := hR.e hEv
        replace Rp := Rp.e hEv
        replace Rt := Rt.e hEv
        replace Ro := Ro.e hEv
        replace hE0 := hE0.trans hEv
        clear hEv
        go_wp2_with fail
        refine (same_self _ _ _ _ _ _ _ _ Rt Ro).mono ?_
        rintro e v11 ⟨rfl, hEv⟩
        replace hR := hR.e hEv
        replace Rp := Rp.e hEv
        replace Rt := Rt.e hEv
        replace Ro := Ro.e hEv
        replace hE0 := hE0.trans hEv
        clear hEv
        go_wp2_with fail
        refine (lives14_c _).mono ?_
        rintro e v12 ⟨rfl, hEv⟩
        replace hR := hR.e hEv
        replace Rp := Rp.e hEv
        replace Rt := Rt.e hEv
        replace Ro := Ro.e hEv
        replace hE0 := hE0.trans hEv
        clear hEv
        go_wp2_with fail
        go_ret
        exact ⟨rfl, hE0⟩
end Go.Proofs.Ytgbamgijpgjmgaa
