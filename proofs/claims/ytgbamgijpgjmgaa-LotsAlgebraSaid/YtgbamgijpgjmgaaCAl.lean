/- Lemmas of the claim, joined: LawAl. No condition. -/
import Derived.Test.YtgbamgijpgjmgaaBL
import Derived.Test.YtgbamgijpgjmgaaBM
/- LotsAlgebra. -/
namespace Go.Proofs.Ytgbamgijpgjmgaa
open Go.RowKit Go.Shelf

theorem gen_two' {a b : List Lt} (ha : GenL a) (hb : GenL b) (h1 : a.length ≤ 7) (h2 : b.length ≤ 7) : Two a b := ⟨genL_valid ha h1, genL_valid hb h2, by omega, by omega⟩
theorem same_of {l1 l2 : List Lt} (h : l1 = l2) (A1 A2 : Option Addr) (n1 c1 n2 c2 : Nat) (w : World) (h1 : LotsAt w A1 n1 c1 l1) (h2 : LotsAt w A2 n2 c2 l2) : Calls Try.prog 18 #[.slice A1 n1 c1, .slice A2 n2 c2] w (RetK w true) := by
  subst h
  exact same_self A1 A2 n1 c1 n2 c2 l1 w h1 h2
theorem within_of {l1 l2 : List Lt} (h : lwithin l1 l2 = true) (A1 A2 : Option Addr) (n1 c1 n2 c2 : Nat) (w : World) (h1 : LotsAt w A1 n1 c1 l1) (h2 : LotsAt w A2 n2 c2 l2) (hn : n1 ≤ 300) (hn' : n2 ≤ 300) : Calls Try.prog 34 #[.slice A1 n1 c1, .slice A2 n2 c2] w (RetK w true) := by
  rw [← h]
  exact lWithin_c A1 n1 c1 l1 A2 n2 c2 l2 w h1 h2 hn hn'
theorem rest_to_add {x g y : Int} (h : x + g = y) : (x + g == y) = true := by simpa using h
set_option maxHeartbeats 16000000 in
set_option maxRecDepth 100000 in
theorem lotsAlgebra_w (Aa : Option Addr) (na ca : Nat) (la : List Int) (Ab : Option Addr) (nb cb : Nat) (lb : List Int) (Ac : Option Addr) (nc cc : Nat) (lc : List Int) (w : World) (ha : Nums .i64 w Aa na ca la) (hb : Nums .i64 w Ab nb cb lb) (hc : Nums .i64 w Ac nc cc lc) :
    Calls Try.prog 8 #[.slice Aa na ca, .slice Ab nb cb, .slice Ac nc cc] w fun e w' => e = .returned (.bool true) ∧ E w w' := by
  have HG1 := Lib.hid (lots14_c 0 Aa na ca la w ha (by omega))
  have HG2 := Lib.hid (fun W (hE : E w W) => lots14_c 0 Ab nb cb lb W (hb.e hE) (by omega))
  have HG3 := Lib.hid (fun W (hE : E w W) => lots14_c 0 Ac nc cc lc W (hc.e hE) (by omega))
  clear ha hb hc
  go_enter Try.func8, Try.ntmps8
  go_wp2_with fail
  refine HG1.out.mono ?_
  rintro e w1 ⟨a, hla, hga, A1, n1, c1, rfl, hO1, hE1⟩
  go_wp2_with fail
  refine (HG2.out _ hE1).mono ?_
  rintro e w2 ⟨b, hlb, hgb, A2, n2, c2, rfl, hO2, hE2⟩
  have hE12 := hE1.trans hE2
  go_wp2_with fail
  refine (HG3.out _ hE12).mono ?_
  rintro e w3 ⟨c, hlc, hgc, A3, n3, c3, rfl, hO3, hE3⟩
  have HE03 := Lib.hid (hE12.trans hE3)
  have Tab := gen_two' hga hgb hla hlb
  have Tbc := gen_two' hgb hgc hlb hlc
  have Tac := gen_two' hga hgc hla hlc
  have Ra := hO1.reads.e (hE2.trans hE3)
  have Rb := hO2.reads.e hE3
  have Rc := hO3.reads
  have ka : n1 ≤ 12 := by have := hO1.1; omega
  have kb : n2 ≤ 12 := by have := hO2.1; omega
  have kc : n3 ≤ 12 := by have := hO3.1; omega
  have HLa := Lib.hid hO1.1
  have hE0 := E.refl w3
  clear hO1 hO2 hO3 hE1 hE2 hE12 hE3 hga hgb hgc hla hlb hlc HG1 HG2 HG3
  go_wp2_with fail
  refine (lMinus_c A1 n1 c1 a A2 n2 c2 b _ Ra Rb (by omega) (by omega)).mono ?_
  rintro e v1 ⟨Ax, nx, cx, rfl, hOx, hEv⟩
  have Rx := hOx.reads
  have hlx := hOx.1
  have kx : nx ≤ 156 := by have := Tab.vminus.2; omega
  clear hlx
  clear hOx
  replace Ra := Ra.e hEv
  replace Rb := Rb.e hEv
  replace Rc := Rc.e hEv
  replace hE0 := hE0.trans hEv
  clear hEv
  go_wp2_with fail
  refine (lMinus_c A2 n2 c2 b A1 n1 c1 a _ Rb Ra (by omega) (by omega)).mono ?_
  rintro e v2 ⟨Ay, ny, cy, rfl, hOy, hEv⟩
  have Ry := hOy.reads
  have hly := hOy.1
  clear hly
  clear hOy
  replace Ra := Ra.e hEv
  replace Rb := Rb.e hEv
  replace Rc := Rc.e hEv
  replace Rx := Rx.e hEv
  replace hE0 := hE0.trans hEv
  clear hEv
  go_wp2_with fail
  refine (lUnion_c Ax nx cx _ Ay ny cy _ _ Rx Ry).mono ?_
  rintro e v3 ⟨Au, nu, cu, rfl, hOu, hEv⟩
  have Ru := hOu.reads
  have hlu := hOu.1
  clear hlu
  clear hOu
  replace Ra := Ra.e hEv
  replace Rb := Rb.e hEv
  replace Rc := Rc.e hEv
  replace Rx := Rx.e hEv
  replace Ry := Ry.e hEv
  replace hE0 := hE0.trans hEv
  clear hEv
  go_wp2_with fail
  refine (lMeet_c A1 n1 c1 a A2 n2 c2 b _ Ra Rb (by omega) (by omega)).mono ?_
  rintro e v4 ⟨Am, nm, cm, rfl, hOm, hEv⟩
  have Rm := hOm.reads
  have hlm := hOm.1
  clear hlm
  clear hOm
  replace Ra := Ra.e hEv
  replace Rb := Rb.e hEv
  replace Rc := Rc.e hEv
  replace Rx := Rx.e hEv
  replace Ry := Ry.e hEv
  replace Ru := Ru.e hEv
  replace hE0 := hE0.trans hEv
  clear hEv
  go_wp2_with fail
  refine (lUnion_c Au nu cu _ Am nm cm _ _ Ru Rm).mono ?_
  rintro e v5 ⟨Ap, np, cp, rfl, hOp, hEv⟩
  have Rp := hOp.reads
  have hlp := hOp.1
  clear hlp
  clear hOp
  replace Ra := Ra.e hEv
  replace Rb := Rb.e hEv
  replace Rc := Rc.e hEv
  replace Rx := Rx.e hEv
  replace Ry := Ry.e hEv
  replace Ru := Ru.e hEv
  replace Rm := Rm.e hEv
  replace hE0 := hE0.trans hEv
  clear hEv
  clear Rx Ry Ru Rm kx
  go_wp2_with fail
  refine (lMinus_c A1 n1 c1 a A2 n2 c2 b _ Ra Rb (by omega) (by omega)).mono ?_
  rintro e v6 ⟨Ad, nd, cd, rfl, hOd, hEv⟩
  have Rd := hOd.reads
  have hld := hOd.1
  have kd : nd ≤ 156 := by have := Tab.vminus.2; omega
  clear hld
  clear hOd
  replace Ra := Ra.e hEv
  replace Rb := Rb.e hEv
  replace Rc := Rc.e hEv
  replace Rp := Rp.e hEv
  replace hE0 := hE0.trans hEv
  clear hEv
  go_wp2_with fail
  refine (lMinus_c Ad nd cd _ A3 n3 c3 c _ Rd Rc (by omega) (by omega)).mono ?_
  rintro e v7 ⟨At, nt, ct, rfl, hOt, hEv⟩
  have Rt := hOt.reads
  have hlt := hOt.1
  clear hlt
  clear hOt
  replace Ra := Ra.e hEv
  replace Rb := Rb.e hEv
  replace Rc := Rc.e hEv
  replace Rp := Rp.e hEv
  replace Rd := Rd.e hEv
  replace hE0 := hE0.trans hEv
  clear hEv
  clear Rd kd
  go_wp2_with fail
  refine (lWithout_c A1 n1 c1 a A2 n2 c2 b _ Ra Rb (by omega) (by omega)).mono ?_
  rintro e v8 ⟨Ar, nr, cr, rfl, hOr, hEv⟩
  have Rr := hOr.reads
  have hlr := hOr.1
  have kr : nr ≤ 156 := by have := Tab.vwithout.2; omega
  clear hlr
  clear hOr
  replace Ra := Ra.e hEv
  replace Rb := Rb.e hEv
  replace Rc := Rc.e hEv
  replace Rp := Rp.e hEv
  replace Rt := Rt.e hEv
  replace hE0 := hE0.trans hEv
  clear hEv
  have HR := Lib.hid (And.intro Ra (And.intro Rb (And.intro Rc (And.intro Rp (And.intro Rt Rr)))))
  have HK := Lib.hid (And.intro ka (And.intro kb (And.intro kc kr)))
  have HT := Lib.hid (And.intro Tab (And.intro Tbc Tac))
  have HE0 := Lib.hid hE0
  have hka : n1 ≤ 12 := ka
  have HZ := Lib.hid (show ((inU b (U (a.take 0))).length : Int) = 0 by rw [List.take_zero]; rfl)
  have HB := Lib.hid (fun i => (show (inU b (U (a.take i))).length ≤ 4503599627370496 by
    have h1 : (inU b (U (a.take i))).length ≤ (U (a.take i)).length := List.length_filter_le _ _
    have h2 : validB (a.take i) = true := validB_iff.2 ⟨by have := Tab.la; have : (a.take i).length ≤ a.length := List.length_take_le' _ _; omega, fun x hx => Tab.pa x (List.mem_of_mem_take hx)⟩
    have h3 := tot_valid h2
    have h4 := tot_range (l := a.take i)
    omega))
  have hm63 := Ra.n63
  have hc63 := Ra.c63
  have hcap := Ra.cap
  clear Ra Rb Rc Rp Rt Rr ka kb kc kr Tab Tbc Tac hE0
  go_wp2_with fail
  go_loopw [13, 14] (fun tg ti wr => ∃ (i : Nat) (g : Int), i ≤ n1 ∧ ti = .int .i64 i ∧ tg = .int .i64 g ∧ E v8 wr ∧ Hid (((inU b (U (a.take i))).length : Int) = g)) (fun _ ti _ => n1 - (intOf ti).toNat)
  case atStart => exact ⟨0, 0, by omega, rfl, rfl, E.refl _, HZ.out⟩
  case round =>
    obtain ⟨i, g, hi, rfl, rfl, hE, hg⟩ := hrel
    by_cases hlt : i < n1
    · have hiI : (i : Int) < (n1 : Int) := by omega
      obtain ⟨bx, ox, eA, hSub⟩ := (HR.out.1.e hE).sub i 1 (by omega) (by omega)
      obtain ⟨x, hx⟩ : ∃ x, a[i]? = some x := ⟨_, List.getElem?_eq_getElem (by rw [HLa.out]; exact hlt)⟩
      have e1 : (a.drop i).take 1 = [x] := by
        obtain ⟨hk, rfl⟩ := List.getElem?_eq_some_iff.1 hx
        rw [List.drop_eq_getElem_cons hk]; rfl
      rw [e1] at hSub
      have HS := Lib.hid (alg4_step HT.out.1 hx)
      have b1 := HB.out i
      have b2 := HB.out (i + 1)
      have hg' := hg.out
      have hs' := HS.out
      have rT := tot_range (l := lmeet [x] b)
      have HM := Lib.hid (lMeet_c _ 1 _ [x] A2 n2 c2 b wr hSub (HR.out.2.1.e hE) (by omega) (by have := HK.out.2.1; omega))
      have HTot := Lib.hid (fun A9 n9 c9 W (h9 : LotsAt W A9 n9 c9 (lmeet [x] b)) => total_c A9 n9 c9 _ W h9)
      have hg2 : ((inU b (U (a.take (i + 1)))).length : Int) = g + totalS (lmeet [x] b) := by omega
      have hgr : 0 ≤ g ∧ g ≤ 4503599627370496 := by omega
      have HG2 := Lib.hid hg2
      generalize totalS (lmeet [x] b) = tm at *
      have hwr : IntKind.i64.wrap (g + tm) = g + tm := by rw [IntKind.wrap_i64]; omega
      have hi1 : (i : Int) + 1 ≤ (n1 : Int) := by omega
      have hwri : IntKind.i64.wrap ((i : Int) + 1) = (i : Int) + 1 := by rw [IntKind.wrap_i64]; omega
      have hii : (i : Int) ≤ (i : Int) + 1 := by omega
      have hi0 : (0 : Int) ≤ (i : Int) := by omega
      clear hg hg' hs' b1 b2 hx e1 hg2 hgr rT hSub
      have HEA := Lib.hid eA
      subst eA
      go_wp2_with fail
      refine HM.out.mono ?_
      rintro e w9 ⟨A9, n9, c9, rfl, hO9, hE9⟩
      have hE' := hE.trans hE9
      go_wp2_with fail
      refine (HTot.out A9 n9 c9 _ hO9.reads).mono ?_
      rintro e w10 ⟨rfl, hE10⟩
      go_wp2_with fail
      go_roundw
      case rel => exact ⟨i + 1, _, by omega, by go_num, rfl, hE'.trans hE10, HG2.out⟩
      case measure => simp [intOf]; omega
    · have hin : i = n1 := by omega
      subst hin

      have Ra := HR.out.1.e hE
      have Rb := HR.out.2.1.e hE
      have Rc := HR.out.2.2.1.e hE
      have Rp := HR.out.2.2.2.1.e hE
      have Rt := HR.out.2.2.2.2.1.e hE
      have Rr := HR.out.2.2.2.2.2.e hE
      obtain ⟨ka, kb, kc, kr⟩ := HK.out
      obtain ⟨Tab, Tbc, Tac⟩ := HT.out
      have hE0 := hE
      have h4 := alg4 Tab (n := i) (by rw [HLa.out]; exact Nat.le_refl _)
      rw [hg.out] at h4
      have rr := tot_range (l := lwithout a b)
      have ra := tot_range (l := a)
      have HTr := Lib.hid (fun W (h : LotsAt W Ar nr cr (lwithout a b)) => total_c Ar nr cr _ W h)
      have HTa := Lib.hid (fun W (h : LotsAt W A1 i c1 a) => total_c A1 i c1 _ W h)
      generalize totalS (lwithout a b) = tr at *
      generalize totalS a = ta at *
      have hwr : IntKind.i64.wrap (tr + g) = tr + g := by rw [IntKind.wrap_i64]; omega
      have heq := rest_to_add h4
      have HHE := Lib.hid heq
      clear h4 rr ra hg heq hE hlt hi
      go_wp2_with fail
      refine (lUnion_c A1 i c1 a A2 n2 c2 b _ Ra Rb).mono ?_
      rintro e v9 ⟨Aq, nq, cq, rfl, hOq, hEv⟩
      have Rq := hOq.reads
      have hlq := hOq.1
      clear hlq
      clear hOq
      replace Ra := Ra.e hEv
      replace Rb := Rb.e hEv
      replace Rc := Rc.e hEv
      replace Rp := Rp.e hEv
      replace Rt := Rt.e hEv
      replace Rr := Rr.e hEv
      replace hE0 := hE0.trans hEv
      clear hEv
      go_wp2_with fail
      refine (same_of (alg1 Tab) _ _ _ _ _ _ _ Rp Rq).mono ?_
      rintro e v10 ⟨rfl, hEv⟩
      replace Ra := Ra.e hEv
      replace Rb := Rb.e hEv
      replace Rc := Rc.e hEv
      replace Rp := Rp.e hEv
      replace Rt := Rt.e hEv
      replace Rr := Rr.e hEv
      replace Rq := Rq.e hEv
      replace hE0 := hE0.trans hEv
      clear hEv
      clear Rq
      go_wp2_with fail
      refine (lUnion_c A2 n2 c2 b A3 n3 c3 c _ Rb Rc).mono ?_
      rintro e v11 ⟨Aq, nq, cq, rfl, hOq, hEv⟩
      have Rq := hOq.reads
      have hlq := hOq.1
      have kq : nq ≤ 24 := by have := Tbc.vunion.2; omega
      clear hlq
      clear hOq
      replace Ra := Ra.e hEv
      replace Rb := Rb.e hEv
      replace Rc := Rc.e hEv
      replace Rp := Rp.e hEv
      replace Rt := Rt.e hEv
      replace Rr := Rr.e hEv
      replace hE0 := hE0.trans hEv
      clear hEv
      go_wp2_with fail
      refine (lMinus_c A1 i c1 a Aq nq cq _ _ Ra Rq (by omega) (by omega)).mono ?_
      rintro e v12 ⟨As, ns, cs, rfl, hOs, hEv⟩
      have Rs := hOs.reads
      have hls := hOs.1
      clear hls
      clear hOs
      replace Ra := Ra.e hEv
      replace Rb := Rb.e hEv
      replace Rc := Rc.e hEv
      replace Rp := Rp.e hEv
      replace Rt := Rt.e hEv
      replace Rr := Rr.e hEv
      replace Rq := Rq.e hEv
      replace hE0 := hE0.trans hEv
      clear hEv
      go_wp2_with fail
      refine (same_of (alg2 Tab Tbc) _ _ _ _ _ _ _ Rt Rs).mono ?_
      rintro e v13 ⟨rfl, hEv⟩
      replace Ra := Ra.e hEv
      replace Rb := Rb.e hEv
      replace Rc := Rc.e hEv
      replace Rp := Rp.e hEv
      replace Rt := Rt.e hEv
      replace Rr := Rr.e hEv
      replace Rq := Rq.e hEv
      replace Rs := Rs.e hEv
      replace hE0 := hE0.trans hEv
      clear hEv
      clear Rq Rs kq
      go_wp2_with fail
      refine (lUnion_c A2 n2 c2 b A3 n3 c3 c _ Rb Rc).mono ?_
      rintro e v14 ⟨Aq, nq, cq, rfl, hOq, hEv⟩
      have Rq := hOq.reads
      have hlq := hOq.1
      have kq : nq ≤ 24 := by have := Tbc.vunion.2; omega
      clear hlq
      clear hOq
      replace Ra := Ra.e hEv
      replace Rb := Rb.e hEv
      replace Rc := Rc.e hEv
      replace Rp := Rp.e hEv
      replace Rt := Rt.e hEv
      replace Rr := Rr.e hEv
      replace hE0 := hE0.trans hEv
      clear hEv
      go_wp2_with fail
      refine (lMeet_c A1 i c1 a Aq nq cq _ _ Ra Rq (by omega) (by omega)).mono ?_
      rintro e v15 ⟨As, ns, cs, rfl, hOs, hEv⟩
      have Rs := hOs.reads
      have hls := hOs.1
      clear hls
      clear hOs
      replace Ra := Ra.e hEv
      replace Rb := Rb.e hEv
      replace Rc := Rc.e hEv
      replace Rp := Rp.e hEv
      replace Rt := Rt.e hEv
      replace Rr := Rr.e hEv
      replace Rq := Rq.e hEv
      replace hE0 := hE0.trans hEv
      clear hEv
      go_wp2_with fail
      refine (lMeet_c A1 i c1 a A2 n2 c2 b _ Ra Rb (by omega) (by omega)).mono ?_
      rintro e v16 ⟨Ay, ny, cy, rfl, hOy, hEv⟩
      have Ry := hOy.reads
      have hly := hOy.1
      clear hly
      clear hOy
      replace Ra := Ra.e hEv
      replace Rb := Rb.e hEv
      replace Rc := Rc.e hEv
      replace Rp := Rp.e hEv
      replace Rt := Rt.e hEv
      replace Rr := Rr.e hEv
      replace Rq := Rq.e hEv
      replace Rs := Rs.e hEv
      replace hE0 := hE0.trans hEv
      clear hEv
      go_wp2_with fail
      refine (lMeet_c A1 i c1 a A3 n3 c3 c _ Ra Rc (by omega) (by omega)).mono ?_
      rintro e v17 ⟨Az, nz, cz, rfl, hOz, hEv⟩
      have Rz := hOz.reads
      have hlz := hOz.1
      clear hlz
      clear hOz
      replace Ra := Ra.e hEv
      replace Rb := Rb.e hEv
      replace Rc := Rc.e hEv
      replace Rp := Rp.e hEv
      replace Rt := Rt.e hEv
      replace Rr := Rr.e hEv
      replace Rq := Rq.e hEv
      replace Rs := Rs.e hEv
      replace Ry := Ry.e hEv
      replace hE0 := hE0.trans hEv
      clear hEv
      go_wp2_with fail
      refine (lUnion_c Ay ny cy _ Az nz cz _ _ Ry Rz).mono ?_
      rintro e v18 ⟨Ao, no, co, rfl, hOo, hEv⟩
      have Ro := hOo.reads
      have hlo := hOo.1
      clear hlo
      clear hOo
      replace Ra := Ra.e hEv
      replace Rb := Rb.e hEv
      replace Rc := Rc.e hEv
      replace Rp := Rp.e hEv
      replace Rt := Rt.e hEv
      replace Rr := Rr.e hEv
      replace Rq := Rq.e hEv
      replace Rs := Rs.e hEv
      replace Ry := Ry.e hEv
      replace Rz := Rz.e hEv
      replace hE0 := hE0.trans hEv
      clear hEv
      go_wp2_with fail
      refine (same_of (alg3 Tab Tbc Tac) _ _ _ _ _ _ _ Rs Ro).mono ?_
      rintro e v19 ⟨rfl, hEv⟩
      replace Ra := Ra.e hEv
      replace Rb := Rb.e hEv
      replace Rc := Rc.e hEv
      replace Rp := Rp.e hEv
      replace Rt := Rt.e hEv
      replace Rr := Rr.e hEv
      replace Rq := Rq.e hEv
      replace Rs := Rs.e hEv
      replace Ry := Ry.e hEv
      replace Rz := Rz.e hEv
      replace Ro := Ro.e hEv
      replace hE0 := hE0.trans hEv
      clear hEv
      clear Rq Rs Ry Rz Ro kq
      go_wp2_with fail
      refine (HTr.out _ Rr).mono ?_
      rintro e v20 ⟨rfl, hEv⟩
      replace Ra := Ra.e hEv
      replace Rb := Rb.e hEv
      replace Rc := Rc.e hEv
      replace Rp := Rp.e hEv
      replace Rt := Rt.e hEv
      replace Rr := Rr.e hEv
      replace hE0 := hE0.trans hEv
      clear hEv
      go_wp2_with fail
      refine (HTa.out _ Ra).mono ?_
      rintro e v21 ⟨rfl, hEv⟩
      replace Ra := Ra.e hEv
      replace Rb := Rb.e hEv
      replace Rc := Rc.e hEv
      replace Rp := Rp.e hEv
      replace Rt := Rt.e hEv
      replace Rr := Rr.e hEv
      replace hE0 := hE0.trans hEv
      clear hEv
      have heq := HHE.out
      go_wp2_with fail
      refine (within_of (alg5 Tab) _ _ _ _ _ _ _ Rr Ra (by omega) (by omega)).mono ?_
      rintro e v22 ⟨rfl, hEv⟩
      replace Ra := Ra.e hEv
      replace Rb := Rb.e hEv
      replace Rc := Rc.e hEv
      replace Rp := Rp.e hEv
      replace Rt := Rt.e hEv
      replace Rr := Rr.e hEv
      replace hE0 := hE0.trans hEv
      clear hEv
      go_wp2_with fail
      refine (lives14_c _).mono ?_
      rintro e v23 ⟨rfl, hEv⟩
      replace Ra := Ra.e hEv
      replace Rb := Rb.e hEv
      replace Rc := Rc.e hEv
      replace Rp := Rp.e hEv
      replace Rt := Rt.e hEv
      replace Rr := Rr.e hEv
      replace hE0 := hE0.trans hEv
      clear hEv
      go_wp2_with fail
      go_ret
      exact ⟨rfl, HE03.out.trans (HE0.out.trans hE0)⟩
end Go.Proofs.Ytgbamgijpgjmgaa
