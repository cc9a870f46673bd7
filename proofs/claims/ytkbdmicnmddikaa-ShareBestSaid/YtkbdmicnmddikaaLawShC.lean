/- The walk of ShareOrder. -/
import Derived.Test.YtkbdmicnmddikaaLawShB
import Derived.IntWalk
namespace Go.Proofs.Ytkbdmicnmddikaa
open Go.RowKit

theorem cmpF_le {a b c d : Int} : cmpF a b c d ≤ 0 ↔ a * d ≤ c * b := by
  unfold cmpF; split
  · omega
  · split <;> omega
theorem cmpF_ge {a b c d : Int} : 0 ≤ cmpF a b c d ↔ c * b ≤ a * d := by
  unfold cmpF; split
  · omega
  · split <;> omega
theorem frac_trans {a b c d e f : Int} (hb : 0 < b) (hd : 0 < d) (hf : 0 < f) (h1 : a * d ≤ c * b) (h2 : c * f ≤ e * d) : a * f ≤ e * b := by
  have k1 : a * d * f ≤ c * b * f := Int.mul_le_mul_of_nonneg_right h1 (by omega)
  have k2 : c * f * b ≤ e * d * b := Int.mul_le_mul_of_nonneg_right h2 (by omega)
  have k3 : d * (a * f) ≤ d * (e * b) := by grind
  exact Int.le_of_mul_le_mul_left k3 hd
theorem cmpF_scale (a b k : Int) : cmpF a b (k * a) (k * b) = 0 := by
  have : a * (k * b) = k * a * b := by grind
  unfold cmpF; rw [if_neg (by omega), if_pos this]
def inR (lo hi : Int) (l : List Int) : Prop := ∀ x ∈ l, lo ≤ x ∧ x ≤ hi
theorem inR.snoc {lo hi : Int} {l : List Int} {x : Int} (h : inR lo hi l) (h1 : lo ≤ x) (h2 : x ≤ hi) : inR lo hi (l ++ [x]) := by
  intro y hy
  rcases List.mem_append.1 hy with hy | hy
  · exact h y hy
  · simp at hy; subst hy; exact ⟨h1, h2⟩
theorem inR.nil (lo hi : Int) : inR lo hi [] := by intro x hx; cases hx
theorem cmp_ok {a b c d : Int} (ha : 0 ≤ a ∧ a ≤ 1152921504606846976) (hb : 1 ≤ b ∧ b ≤ 1152921504606846976) (hc : 0 ≤ c ∧ c ≤ 1152921504606846976) (hd : 1 ≤ d ∧ d ≤ 1152921504606846976) : cmpV a b c d = cmpF a b c d ∧ cmpX a b c d = 0 := by
  have h : cmpOk a b c d = true := cmpOk_iff.2 ⟨ha, ⟨by omega, hb.2⟩, hc, by omega, hd.2⟩
  simp [cmpV, cmpX, h]

theorem six_e {w w' : World} {gn gd : Nat} {n0 n1 n2 d0 d1 d2 : Int} (hgn : gn < w.heap.size) (hgd : gd < w.heap.size) (h : w.cell? ⟨gn, 0, none⟩ = some (.int .i64 n0) ∧ w.cell? ⟨gn, 1, none⟩ = some (.int .i64 n1) ∧ w.cell? ⟨gn, 2, none⟩ = some (.int .i64 n2) ∧ w.cell? ⟨gd, 0, none⟩ = some (.int .i64 d0) ∧ w.cell? ⟨gd, 1, none⟩ = some (.int .i64 d1) ∧ w.cell? ⟨gd, 2, none⟩ = some (.int .i64 d2)) (hE : E w.drew w') :
    w'.cell? ⟨gn, 0, none⟩ = some (.int .i64 n0) ∧ w'.cell? ⟨gn, 1, none⟩ = some (.int .i64 n1) ∧ w'.cell? ⟨gn, 2, none⟩ = some (.int .i64 n2) ∧ w'.cell? ⟨gd, 0, none⟩ = some (.int .i64 d0) ∧ w'.cell? ⟨gd, 1, none⟩ = some (.int .i64 d1) ∧ w'.cell? ⟨gd, 2, none⟩ = some (.int .i64 d2) :=
  ⟨(hE.cell (p := ⟨gn, 0, none⟩) hgn).trans h.1, (hE.cell (p := ⟨gn, 1, none⟩) hgn).trans h.2.1, (hE.cell (p := ⟨gn, 2, none⟩) hgn).trans h.2.2.1, (hE.cell (p := ⟨gd, 0, none⟩) hgd).trans h.2.2.2.1, (hE.cell (p := ⟨gd, 1, none⟩) hgd).trans h.2.2.2.2.1, (hE.cell (p := ⟨gd, 2, none⟩) hgd).trans h.2.2.2.2.2⟩
set_option maxHeartbeats 8000000 in
set_option maxRecDepth 100000 in
theorem shareOrder_w (A : Option Addr) (n c : Nat) (l : List Int) (factor : Int) (w : World) (h : Nums .i64 w A n c l) (k1 : -9223372036854775808 ≤ factor) (k2 : factor ≤ 9223372036854775807) :
    Calls Try.prog 10 #[.slice A n c, .int .i64 factor] w (RetT w true) := by
  have hm := h.n63
  go_enter Try.func10, Try.ntmps10
  go_wp2_with fail
  go_loopw [5, 6, 7] (fun tn td ti wr => ∃ (k cn cd : Nat) (An Ad : Option Addr) (ln ld : List Int), k ≤ 3 ∧ ti = .int .i64 k ∧ tn = .slice An k cn ∧ td = .slice Ad k cd ∧ Own .i64 3 wr w.heap.size An k cn ln ∧ Own .i64 3 wr w.heap.size Ad k cd ld ∧ apartS An Ad ∧ inR 0 1073741823 ln ∧ inR 1 1073741824 ld ∧ E w wr) (fun _ _ ti _ => 3 - (intOf ti).toNat)
  case atStart => exact ⟨0, 0, 0, none, none, [], [], Nat.zero_le _, rfl, rfl, rfl, Own.nil _ _ _ _, Own.nil _ _ _ _, apart_none _, inR.nil _ _, inR.nil _ _, E.refl _⟩
  case round =>
    obtain ⟨k, cn, cd, An, Ad, ln, ld, hk, rfl, rfl, rfl, hn, hd, hap, hrn, hrd, hE⟩ := hrel
    obtain ⟨wi, rfl⟩ : ∃ wo : World, wo = wr := ⟨_, rfl⟩
    have hle := hE.le
    by_cases hlt : (k : Int) < 3
    · have tok0 : True := trivial
      have tok1 : True := trivial
      by_cases hin : 2 * k + 1 < n
      · obtain ⟨g0, o0, x, rfl, _, _, hwx, hcx⟩ := (h.e hE).get (i := 2 * k) (by omega)
        obtain ⟨g1, o1, y, e1, _, _, hwy, hcy⟩ := (h.e hE).get (i := 2 * k + 1) (by omega)
        injection e1 with e1; injection e1 with e1 e1'; subst e1 e1'
        obtain ⟨x0, x1⟩ := wf_i64 hwx
        obtain ⟨y0, y1⟩ := wf_i64 hwy
        have hi1 : 2 * (k : Int) + 1 < (n : Int) := by omega
        obtain ⟨p, hp⟩ : ∃ p, x % 1073741824 = p := ⟨_, rfl⟩
        obtain ⟨q, hq⟩ : ∃ q, y % 1073741824 = q := ⟨_, rfl⟩
        have p0 : 0 ≤ p := by omega
        have p1 : p ≤ 1073741823 := by omega
        have q0 : 0 ≤ q := by omega
        have q1 : q ≤ 1073741823 := by omega
        clear hwx hwy
        go_wp2_with (first
          | (go_at_call 12; have _t := tok0; refine (aroundR _ _ _ x0 x1 (by omega) (by omega)).mono ?_; rintro e w' ⟨rfl, rfl⟩; clear tok0 _t)
          | (go_at_call 12; refine (aroundR _ _ _ y0 y1 (by omega) (by omega)).mono ?_; rintro e w' ⟨rfl, rfl⟩)
          | (at_builtin; have _t := tok1; refine wpList_app1n intT3 _ rfl _ _ rfl _ _ _ _ _ rfl hn _ rfl (wf_of_i64 (by omega) (by omega)) (by omega) hle ?_; intro g' c3 w3 hn3 hG3 hB3 hor3; clear tok1 _t; have hd3 := hd.keptA hG3 hap.symm; have hap3 := apart_grow hap.symm (fun b hb => (hd.ltN b hb).2) hor3; have hle3 := Nat.le_trans hle hG3.size)
          | (at_builtin; refine wpList_app1n intT3 _ rfl _ _ rfl _ _ _ _ _ rfl hd3 _ rfl (wf_of_i64 (by omega) (by omega)) (by omega) hle3 ?_; intro g'' c4 w4 hd4 hG4 hB4 hor4; have hn4 := hn3.keptA hG4 hap3.symm; have hap4 := apart_grow hap3.symm (fun b hb => (hn3.ltN b hb).2) hor4))
        go_roundw
        case rel => exact ⟨k + 1, c3, c4, _, _, _, _, by omega, by go_num, rfl, rfl, hn4, hd4, hap4, hrn.snoc (by omega) (by omega), hrd.snoc (by omega) (by omega), (hE.up hB3).up hB4⟩
        case measure => simp [intOf]; omega
      · have hi1 : ¬ 2 * (k : Int) + 1 < (n : Int) := by omega
        go_wp2_with (first
          | (go_at_call 12; have _t := tok0; refine (aroundR _ _ _ (by omega) (by omega) (by omega) (by omega)).mono ?_; rintro e w' ⟨rfl, rfl⟩; clear tok0 _t)
          | (go_at_call 12; refine (aroundR _ _ _ (by omega) (by omega) (by omega) (by omega)).mono ?_; rintro e w' ⟨rfl, rfl⟩)
          | (at_builtin; have _t := tok1; refine wpList_app1n intT3 _ rfl _ _ rfl _ _ _ _ _ rfl hn _ rfl (wf_of_i64 (by omega) (by omega)) (by omega) hle ?_; intro g' c3 w3 hn3 hG3 hB3 hor3; clear tok1 _t; have hd3 := hd.keptA hG3 hap.symm; have hap3 := apart_grow hap.symm (fun b hb => (hd.ltN b hb).2) hor3; have hle3 := Nat.le_trans hle hG3.size)
          | (at_builtin; refine wpList_app1n intT3 _ rfl _ _ rfl _ _ _ _ _ rfl hd3 _ rfl (wf_of_i64 (by omega) (by omega)) (by omega) hle3 ?_; intro g'' c4 w4 hd4 hG4 hB4 hor4; have hn4 := hn3.keptA hG4 hap3.symm; have hap4 := apart_grow hap3.symm (fun b hb => (hn3.ltN b hb).2) hor4))
        go_roundw
        case rel => exact ⟨k + 1, c3, c4, _, _, _, _, by omega, by go_num, rfl, rfl, hn4, hd4, hap4, hrn.snoc (by omega) (by omega), hrd.snoc (by omega) (by omega), (hE.up hB3).up hB4⟩
        case measure => simp [intOf]; omega
    · obtain rfl : k = 3 := by omega
      have hn63 := hn.reads.c63
      have hd63 := hd.reads.c63
      obtain ⟨gn, n0, rfl, _, hgn, en0, _, cn0, _⟩ := hn.get (i := 0) (by omega)
      obtain ⟨n1, _, _, en1, _, cn1, _⟩ := hn.getg (i := 1) (by omega)
      obtain ⟨n2, _, _, en2, _, cn2, _⟩ := hn.getg (i := 2) (by omega)
      obtain ⟨gd, d0, rfl, _, hgd, ed0, _, cd0, _⟩ := hd.get (i := 0) (by omega)
      obtain ⟨d1, _, _, ed1, _, cd1, _⟩ := hd.getg (i := 1) (by omega)
      obtain ⟨d2, _, _, ed2, _, cd2, _⟩ := hd.getg (i := 2) (by omega)
      have rn0 := hrn _ (List.mem_of_getElem? en0)
      have rn1 := hrn _ (List.mem_of_getElem? en1)
      have rn2 := hrn _ (List.mem_of_getElem? en2)
      have rd0 := hrd _ (List.mem_of_getElem? ed0)
      have rd1 := hrd _ (List.mem_of_getElem? ed1)
      have rd2 := hrd _ (List.mem_of_getElem? ed2)
      clear en0 en1 en2 ed0 ed1 ed2 hrn hrd hn hd hap
      obtain ⟨f, hf⟩ : ∃ f, factor % 1000 = f := ⟨_, rfl⟩
      have f0 : 0 ≤ f := by omega
      have f1 : f ≤ 999 := by omega
      have m0 := Int.mul_nonneg (show 0 ≤ 1 + f by omega) rn0.1
      have m1 : (1 + f) * n0 ≤ 1000 * n0 := Int.mul_le_mul_of_nonneg_right (by omega) rn0.1
      have m2 : 1 * d0 ≤ (1 + f) * d0 := Int.mul_le_mul_of_nonneg_right (by omega) (by omega)
      have m3 : (1 + f) * d0 ≤ 1000 * d0 := Int.mul_le_mul_of_nonneg_right (by omega) (by omega)
      obtain ⟨v1, x1⟩ := cmp_ok (a := n0) (b := d0) (c := n1) (d := d1) (by omega) (by omega) (by omega) (by omega)
      obtain ⟨v2, x2⟩ := cmp_ok (a := n1) (b := d1) (c := n2) (d := d2) (by omega) (by omega) (by omega) (by omega)
      obtain ⟨v3, x3⟩ := cmp_ok (a := n0) (b := d0) (c := n2) (d := d2) (by omega) (by omega) (by omega) (by omega)
      obtain ⟨v4, x4⟩ := cmp_ok (a := n1) (b := d1) (c := n0) (d := d0) (by omega) (by omega) (by omega) (by omega)
      obtain ⟨v5, x5⟩ := cmp_ok (a := n0) (b := d0) (c := (1 + f) * n0) (d := (1 + f) * d0) (by omega) (by omega) (by omega) (by omega)
      rw [cmpF_scale] at v5
      have hneg := cmpF_neg n0 d0 n1 d1
      have ht1 : cmpF n0 d0 n1 d1 ≤ 0 → cmpF n1 d1 n2 d2 ≤ 0 → cmpF n0 d0 n2 d2 ≤ 0 := fun a b => cmpF_le.2 (frac_trans (show 0 < d0 by omega) (show 0 < d1 by omega) (show 0 < d2 by omega) (cmpF_le.1 a) (cmpF_le.1 b))
      have ht2 : 0 ≤ cmpF n0 d0 n1 d1 → 0 ≤ cmpF n1 d1 n2 d2 → 0 ≤ cmpF n0 d0 n2 d2 := fun a b => cmpF_ge.2 (frac_trans (show 0 < d2 by omega) (show 0 < d1 by omega) (show 0 < d0 by omega) (cmpF_ge.1 b) (cmpF_ge.1 a))
      have P1 := Lib.hid (compare_c n0 d0 n1 d1)
      have P2 := Lib.hid (compare_c n1 d1 n2 d2)
      have P3 := Lib.hid (compare_c n0 d0 n2 d2)
      have P4 := Lib.hid (compare_c n1 d1 n0 d0)
      have P5 := Lib.hid (compare_c n0 d0 ((1 + f) * n0) ((1 + f) * d0))
      rw [v1, x1] at P1
      rw [v2, x2] at P2
      rw [v3, x3] at P3
      rw [v4, x4, hneg] at P4
      rw [v5, x5] at P5
      have k1' := cmpF_cases n0 d0 n1 d1
      have k2' := cmpF_cases n1 d1 n2 d2
      have k3' := cmpF_cases n0 d0 n2 d2
      clear v1 v2 v3 v4 v5 x1 x2 x3 x4 x5 hneg
      generalize cmpF n0 d0 n1 d1 = ab at *
      generalize cmpF n1 d1 n2 d2 = bc at *
      generalize cmpF n0 d0 n2 d2 = ac at *
      have HC := Lib.hid (show -1 ≤ ab ∧ ab ≤ 1 ∧ -1 ≤ bc ∧ bc ≤ 1 ∧ (ab ≤ 0 → bc ≤ 0 → ac ≤ 0) ∧ (0 ≤ ab → 0 ≤ bc → 0 ≤ ac) ∧ -1 ≤ ac ∧ ac ≤ 1 from ⟨by omega, by omega, by omega, by omega, ht1, ht2, by omega, by omega⟩)
      clear k1' k2' k3' ht1 ht2
      obtain ⟨rn00, rn01⟩ := rn0
      obtain ⟨rd00, rd01⟩ := rd0
      clear rn1 rn2 rd1 rd2
      go_wp2_with fail
      refine (aroundR factor 1000 _ k1 k2 (by omega) (by omega)).mono ?_
      rintro e w' ⟨rfl, rfl⟩
      generalize wi = wa at *
      go_upto_region 12 with fail
      go_region_held3 (fun w' => w'.cell? ⟨gn, 0, none⟩ = some (.int .i64 n0) ∧ w'.cell? ⟨gn, 1, none⟩ = some (.int .i64 n1) ∧ w'.cell? ⟨gn, 2, none⟩ = some (.int .i64 n2) ∧ w'.cell? ⟨gd, 0, none⟩ = some (.int .i64 d0) ∧ w'.cell? ⟨gd, 1, none⟩ = some (.int .i64 d1) ∧ w'.cell? ⟨gd, 2, none⟩ = some (.int .i64 d2)) (first | exact ⟨cn0, cn1, cn2, cd0, cd1, cd2⟩ | exact six_e hgn hgd ⟨cn0, cn1, cn2, cd0, cd1, cd2⟩ (by assumption))
        (first | (go_at_call 24; refine (P1.out _).mono ?_; rintro e wb12 ⟨rfl, hE12⟩))
      have hF12 : E wa wb12 := ((E.refl wa).drew).trans hE12
      replace cn0 := (hF12.cell (p := ⟨gn, 0, none⟩) hgn).trans cn0
      replace cn1 := (hF12.cell (p := ⟨gn, 1, none⟩) hgn).trans cn1
      replace cn2 := (hF12.cell (p := ⟨gn, 2, none⟩) hgn).trans cn2
      replace cd0 := (hF12.cell (p := ⟨gd, 0, none⟩) hgd).trans cd0
      replace cd1 := (hF12.cell (p := ⟨gd, 1, none⟩) hgd).trans cd1
      replace cd2 := (hF12.cell (p := ⟨gd, 2, none⟩) hgd).trans cd2
      replace hgn := Nat.lt_of_lt_of_le hgn hF12.le
      replace hgd := Nat.lt_of_lt_of_le hgd hF12.le
      replace hE := hE.trans hF12
      clear hE12 hF12 P1
      go_upto_region 13 with fail
      go_region_held3 (fun w' => w'.cell? ⟨gn, 0, none⟩ = some (.int .i64 n0) ∧ w'.cell? ⟨gn, 1, none⟩ = some (.int .i64 n1) ∧ w'.cell? ⟨gn, 2, none⟩ = some (.int .i64 n2) ∧ w'.cell? ⟨gd, 0, none⟩ = some (.int .i64 d0) ∧ w'.cell? ⟨gd, 1, none⟩ = some (.int .i64 d1) ∧ w'.cell? ⟨gd, 2, none⟩ = some (.int .i64 d2)) (first | exact ⟨cn0, cn1, cn2, cd0, cd1, cd2⟩ | exact six_e hgn hgd ⟨cn0, cn1, cn2, cd0, cd1, cd2⟩ (by assumption))
        (first | (go_at_call 24; refine (P2.out _).mono ?_; rintro e wb13 ⟨rfl, hE13⟩))
      have hF13 : E wb12 wb13 := ((E.refl wb12).drew).trans hE13
      replace cn0 := (hF13.cell (p := ⟨gn, 0, none⟩) hgn).trans cn0
      replace cn1 := (hF13.cell (p := ⟨gn, 1, none⟩) hgn).trans cn1
      replace cn2 := (hF13.cell (p := ⟨gn, 2, none⟩) hgn).trans cn2
      replace cd0 := (hF13.cell (p := ⟨gd, 0, none⟩) hgd).trans cd0
      replace cd1 := (hF13.cell (p := ⟨gd, 1, none⟩) hgd).trans cd1
      replace cd2 := (hF13.cell (p := ⟨gd, 2, none⟩) hgd).trans cd2
      replace hgn := Nat.lt_of_lt_of_le hgn hF13.le
      replace hgd := Nat.lt_of_lt_of_le hgd hF13.le
      replace hE := hE.trans hF13
      clear hE13 hF13 P2
      go_upto_region 14 with fail
      go_region_held3 (fun w' => w'.cell? ⟨gn, 0, none⟩ = some (.int .i64 n0) ∧ w'.cell? ⟨gn, 1, none⟩ = some (.int .i64 n1) ∧ w'.cell? ⟨gn, 2, none⟩ = some (.int .i64 n2) ∧ w'.cell? ⟨gd, 0, none⟩ = some (.int .i64 d0) ∧ w'.cell? ⟨gd, 1, none⟩ = some (.int .i64 d1) ∧ w'.cell? ⟨gd, 2, none⟩ = some (.int .i64 d2)) (first | exact ⟨cn0, cn1, cn2, cd0, cd1, cd2⟩ | exact six_e hgn hgd ⟨cn0, cn1, cn2, cd0, cd1, cd2⟩ (by assumption))
        (first | (go_at_call 24; refine (P3.out _).mono ?_; rintro e wb14 ⟨rfl, hE14⟩))
      have hF14 : E wb13 wb14 := ((E.refl wb13).drew).trans hE14
      replace cn0 := (hF14.cell (p := ⟨gn, 0, none⟩) hgn).trans cn0
      replace cn1 := (hF14.cell (p := ⟨gn, 1, none⟩) hgn).trans cn1
      replace cn2 := (hF14.cell (p := ⟨gn, 2, none⟩) hgn).trans cn2
      replace cd0 := (hF14.cell (p := ⟨gd, 0, none⟩) hgd).trans cd0
      replace cd1 := (hF14.cell (p := ⟨gd, 1, none⟩) hgd).trans cd1
      replace cd2 := (hF14.cell (p := ⟨gd, 2, none⟩) hgd).trans cd2
      replace hgn := Nat.lt_of_lt_of_le hgn hF14.le
      replace hgd := Nat.lt_of_lt_of_le hgd hF14.le
      replace hE := hE.trans hF14
      clear hE14 hF14 P3
      go_upto_region 15 with fail
      go_region_held3 (fun w' => w'.cell? ⟨gn, 0, none⟩ = some (.int .i64 n0) ∧ w'.cell? ⟨gn, 1, none⟩ = some (.int .i64 n1) ∧ w'.cell? ⟨gn, 2, none⟩ = some (.int .i64 n2) ∧ w'.cell? ⟨gd, 0, none⟩ = some (.int .i64 d0) ∧ w'.cell? ⟨gd, 1, none⟩ = some (.int .i64 d1) ∧ w'.cell? ⟨gd, 2, none⟩ = some (.int .i64 d2)) (first | exact ⟨cn0, cn1, cn2, cd0, cd1, cd2⟩ | exact six_e hgn hgd ⟨cn0, cn1, cn2, cd0, cd1, cd2⟩ (by assumption))
        (first | (go_at_call 24; refine (P4.out _).mono ?_; rintro e wb15 ⟨rfl, hE15⟩))
      have hF15 : E wb14 wb15 := ((E.refl wb14).drew).trans hE15
      replace cn0 := (hF15.cell (p := ⟨gn, 0, none⟩) hgn).trans cn0
      replace cn1 := (hF15.cell (p := ⟨gn, 1, none⟩) hgn).trans cn1
      replace cn2 := (hF15.cell (p := ⟨gn, 2, none⟩) hgn).trans cn2
      replace cd0 := (hF15.cell (p := ⟨gd, 0, none⟩) hgd).trans cd0
      replace cd1 := (hF15.cell (p := ⟨gd, 1, none⟩) hgd).trans cd1
      replace cd2 := (hF15.cell (p := ⟨gd, 2, none⟩) hgd).trans cd2
      replace hgn := Nat.lt_of_lt_of_le hgn hF15.le
      replace hgd := Nat.lt_of_lt_of_le hgd hF15.le
      replace hE := hE.trans hF15
      clear hE15 hF15 P4
      have hw1 : IntKind.i64.wrap ((1 + f) * n0) = (1 + f) * n0 := IntWalk.i64_in _ (by omega)
      have hw2 : IntKind.i64.wrap ((1 + f) * d0) = (1 + f) * d0 := IntWalk.i64_in _ (by omega)
      go_upto_region 16 with fail
      go_region_held3 (fun w' => w'.cell? ⟨gn, 0, none⟩ = some (.int .i64 n0) ∧ w'.cell? ⟨gn, 1, none⟩ = some (.int .i64 n1) ∧ w'.cell? ⟨gn, 2, none⟩ = some (.int .i64 n2) ∧ w'.cell? ⟨gd, 0, none⟩ = some (.int .i64 d0) ∧ w'.cell? ⟨gd, 1, none⟩ = some (.int .i64 d1) ∧ w'.cell? ⟨gd, 2, none⟩ = some (.int .i64 d2)) (first | exact ⟨cn0, cn1, cn2, cd0, cd1, cd2⟩ | exact six_e hgn hgd ⟨cn0, cn1, cn2, cd0, cd1, cd2⟩ (by assumption))
        (first | (go_at_call 24; refine (P5.out _).mono ?_; rintro e wb16 ⟨rfl, hE16⟩))
      clear hw1 hw2
      have hF16 : E wb15 wb16 := ((E.refl wb15).drew).trans hE16
      replace cn0 := (hF16.cell (p := ⟨gn, 0, none⟩) hgn).trans cn0
      replace cn1 := (hF16.cell (p := ⟨gn, 1, none⟩) hgn).trans cn1
      replace cn2 := (hF16.cell (p := ⟨gn, 2, none⟩) hgn).trans cn2
      replace cd0 := (hF16.cell (p := ⟨gd, 0, none⟩) hgd).trans cd0
      replace cd1 := (hF16.cell (p := ⟨gd, 1, none⟩) hgd).trans cd1
      replace cd2 := (hF16.cell (p := ⟨gd, 2, none⟩) hgd).trans cd2
      replace hgn := Nat.lt_of_lt_of_le hgn hF16.le
      replace hgd := Nat.lt_of_lt_of_le hgd hF16.le
      replace hE := hE.trans hF16
      clear hE16 hF16 P5
      obtain ⟨c1, c2, c3, c4, c5, c6, c7, c8⟩ := HC.out
      clear HC cn0 cn1 cn2 cd0 cd1 cd2
      go_upto_region 17 with fail
      have z1 : (ab == ab) = true := by simp
      clear hgn hgd rn00 rn01 rd00 rd01 m0 m1 m2 m3 f0 f1 hf
      rcases Int.lt_trichotomy ab 0 with sa | sa | sa <;> rcases Int.lt_trichotomy bc 0 with sb | sb | sb
      · have d1 : decide (ab ≤ 0) = true := by simp; omega
        have d2 : decide (bc ≤ 0) = true := by simp; omega
        have d4 : decide (0 ≤ ab) = false := by simp; omega
        have d5 : decide (0 ≤ bc) = false := by simp; omega
        have d3 : decide (0 < ac) = false := by have := c5 (by omega) (by omega); simp; omega
        clear c5 c6 sa sb
        go_wp2_with fail
        refine (shLives_c _).mono ?_
        rintro e w9 ⟨rfl, hE9⟩
        go_wp2_with fail
        go_ret
        exact ⟨rfl, hE.trans hE9⟩
      · have d1 : decide (ab ≤ 0) = true := by simp; omega
        have d2 : decide (bc ≤ 0) = true := by simp; omega
        have d4 : decide (0 ≤ ab) = false := by simp; omega
        have d5 : decide (0 ≤ bc) = true := by simp; omega
        have d3 : decide (0 < ac) = false := by have := c5 (by omega) (by omega); simp; omega
        clear c5 c6 sa sb
        go_wp2_with fail
        refine (shLives_c _).mono ?_
        rintro e w9 ⟨rfl, hE9⟩
        go_wp2_with fail
        go_ret
        exact ⟨rfl, hE.trans hE9⟩
      · have d1 : decide (ab ≤ 0) = true := by simp; omega
        have d2 : decide (bc ≤ 0) = false := by simp; omega
        have d4 : decide (0 ≤ ab) = false := by simp; omega
        have d5 : decide (0 ≤ bc) = true := by simp; omega
        clear c5 c6 sa sb
        go_wp2_with fail
        refine (shLives_c _).mono ?_
        rintro e w9 ⟨rfl, hE9⟩
        go_wp2_with fail
        go_ret
        exact ⟨rfl, hE.trans hE9⟩
      · have d1 : decide (ab ≤ 0) = true := by simp; omega
        have d2 : decide (bc ≤ 0) = true := by simp; omega
        have d4 : decide (0 ≤ ab) = true := by simp; omega
        have d5 : decide (0 ≤ bc) = false := by simp; omega
        have d3 : decide (0 < ac) = false := by have := c5 (by omega) (by omega); simp; omega
        clear c5 c6 sa sb
        go_wp2_with fail
        refine (shLives_c _).mono ?_
        rintro e w9 ⟨rfl, hE9⟩
        go_wp2_with fail
        go_ret
        exact ⟨rfl, hE.trans hE9⟩
      · have d1 : decide (ab ≤ 0) = true := by simp; omega
        have d2 : decide (bc ≤ 0) = true := by simp; omega
        have d4 : decide (0 ≤ ab) = true := by simp; omega
        have d5 : decide (0 ≤ bc) = true := by simp; omega
        have d3 : decide (0 < ac) = false := by have := c5 (by omega) (by omega); simp; omega
        have d6 : decide (ac < 0) = false := by have := c6 (by omega) (by omega); simp; omega
        clear c5 c6 sa sb
        go_wp2_with fail
        refine (shLives_c _).mono ?_
        rintro e w9 ⟨rfl, hE9⟩
        go_wp2_with fail
        go_ret
        exact ⟨rfl, hE.trans hE9⟩
      · have d1 : decide (ab ≤ 0) = true := by simp; omega
        have d2 : decide (bc ≤ 0) = false := by simp; omega
        have d4 : decide (0 ≤ ab) = true := by simp; omega
        have d5 : decide (0 ≤ bc) = true := by simp; omega
        have d6 : decide (ac < 0) = false := by have := c6 (by omega) (by omega); simp; omega
        clear c5 c6 sa sb
        go_wp2_with fail
        refine (shLives_c _).mono ?_
        rintro e w9 ⟨rfl, hE9⟩
        go_wp2_with fail
        go_ret
        exact ⟨rfl, hE.trans hE9⟩
      · have d1 : decide (ab ≤ 0) = false := by simp; omega
        have d2 : decide (bc ≤ 0) = true := by simp; omega
        have d4 : decide (0 ≤ ab) = true := by simp; omega
        have d5 : decide (0 ≤ bc) = false := by simp; omega
        clear c5 c6 sa sb
        go_wp2_with fail
        refine (shLives_c _).mono ?_
        rintro e w9 ⟨rfl, hE9⟩
        go_wp2_with fail
        go_ret
        exact ⟨rfl, hE.trans hE9⟩
      · have d1 : decide (ab ≤ 0) = false := by simp; omega
        have d2 : decide (bc ≤ 0) = true := by simp; omega
        have d4 : decide (0 ≤ ab) = true := by simp; omega
        have d5 : decide (0 ≤ bc) = true := by simp; omega
        have d6 : decide (ac < 0) = false := by have := c6 (by omega) (by omega); simp; omega
        clear c5 c6 sa sb
        go_wp2_with fail
        refine (shLives_c _).mono ?_
        rintro e w9 ⟨rfl, hE9⟩
        go_wp2_with fail
        go_ret
        exact ⟨rfl, hE.trans hE9⟩
      · have d1 : decide (ab ≤ 0) = false := by simp; omega
        have d2 : decide (bc ≤ 0) = false := by simp; omega
        have d4 : decide (0 ≤ ab) = true := by simp; omega
        have d5 : decide (0 ≤ bc) = true := by simp; omega
        have d6 : decide (ac < 0) = false := by have := c6 (by omega) (by omega); simp; omega
        clear c5 c6 sa sb
        go_wp2_with fail
        refine (shLives_c _).mono ?_
        rintro e w9 ⟨rfl, hE9⟩
        go_wp2_with fail
        go_ret
        exact ⟨rfl, hE.trans hE9⟩
end Go.Proofs.Ytkbdmicnmddikaa
