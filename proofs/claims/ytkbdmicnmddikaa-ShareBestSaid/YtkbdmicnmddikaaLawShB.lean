/- The walk of ShareCompare. -/
import Derived.Test.YtkbdmicnmddikaaLawShA
import Derived.Deep.RegionHeld3
import Derived.Deep.DeepCutAuto
namespace Go.Proofs.Ytkbdmicnmddikaa
open Go.RowKit

def arL (l : List Int) (k : Nat) : List Int := (l.take k).map fun x => x % 1152921504606846977
def arS (l : List Int) (k : Nat) : List Int := (l.take k).map fun x => x % 1152921504606846977 % 7
theorem map_snoc {f : Int → Int} {l : List Int} {k : Nat} {x : Int} (h : l[k]? = some x) : (l.take (k + 1)).map f = (l.take k).map f ++ [f x] := by
  obtain ⟨hk, rfl⟩ := List.getElem?_eq_some_iff.1 h
  rw [List.take_succ_eq_append_getElem hk, List.map_append]; rfl

theorem sOfE {w0 w2 : World} (hE : E w0 w2) : w0.heap.size ≤ w2.heap.size ∧ ∀ b o, b < w0.heap.size → w2.cell? ⟨b, o, none⟩ = w0.cell? ⟨b, o, none⟩ := ⟨hE.le, fun b o hb => hE.cell (p := ⟨b, o, none⟩) hb⟩
theorem wf_wrapI (x : Int) : (Lit.int .i64 (IntKind.i64.wrap x)).wf = true := by
  have : IntKind.i64.wrap x = if 9223372036854775808 ≤ x % 18446744073709551616 then x % 18446744073709551616 - 18446744073709551616 else x % 18446744073709551616 := by simp [IntKind.wrap, IntKind.bits, IntKind.signed]
  rw [this]
  split <;> exact wf_of_i64 (by omega) (by omega)
theorem wf_max {x : Int} (h : (Lit.int .i64 x).wf = true) : (Lit.int .i64 (max 0 x)).wf = true := by
  have := wf_i64 h
  exact wf_of_i64 (by omega) (by omega)
theorem nums4 (a b c d : Int) (ha : (Lit.int .i64 a).wf = true) (hb : (Lit.int .i64 b).wf = true) (hc : (Lit.int .i64 c).wf = true) (hd : (Lit.int .i64 d).wf = true) (T : TypeId) (V : World) (z : Nat) (hz : V.heap.size = z) :
    Nums .i64 (V.alloc (.cells #[.int .i64 a, .int .i64 b, .int .i64 c, .int .i64 d] T)) (some ⟨z, 0, none⟩) 4 4 [a, b, c, d] :=
  nums_at .i64 V z hz [a, b, c, d] T (by simp) (by simp; exact ⟨ha, hb, hc, hd⟩)
/-- a slice of five slices of four numbers -/
def Five (w : World) (ga : Nat) : Prop := ∀ i, i < 5 → ∃ A c l, w.cell? ⟨ga, i, none⟩ = some (.slice A 4 c) ∧ Nums .i64 w A 4 c l
theorem five_mk {V W : World} {g : Nat} {T : TypeId} {A0 A1 A2 A3 A4 : Option Addr} {c0 c1 c2 c3 c4 : Nat} {l0 l1 l2 l3 l4 : List Int} (hg : V.heap.size = g) (hW : W = (V.alloc (.cells #[.slice A0 4 c0, .slice A1 4 c1, .slice A2 4 c2, .slice A3 4 c3, .slice A4 4 c4] T)).drew)
    (h0 : Nums .i64 V A0 4 c0 l0) (h1 : Nums .i64 V A1 4 c1 l1) (h2 : Nums .i64 V A2 4 c2 l2) (h3 : Nums .i64 V A3 4 c3 l3) (h4 : Nums .i64 V A4 4 c4 l4) : Five W g := by
  subst hg hW
  have hE := (((E.refl V).alloc (.cells #[.slice A0 4 c0, .slice A1 4 c1, .slice A2 4 c2, .slice A3 4 c3, .slice A4 4 c4] T)).drew)
  have hc := fun j => cell_of_row _ V.heap.size j _ _ _ (heap_alloc_new V (.cells #[.slice A0 4 c0, .slice A1 4 c1, .slice A2 4 c2, .slice A3 4 c3, .slice A4 4 c4] T))
  intro i hi
  match i, hi with
  | 0, _ => exact ⟨_, _, _, hc 0, h0.e hE⟩
  | 1, _ => exact ⟨_, _, _, hc 1, h1.e hE⟩
  | 2, _ => exact ⟨_, _, _, hc 2, h2.e hE⟩
  | 3, _ => exact ⟨_, _, _, hc 3, h3.e hE⟩
  | 4, _ => exact ⟨_, _, _, hc 4, h4.e hE⟩
theorem Five.q {w w' : World} {g : Nat} (h : Five w g) (hq : Q w w') : Five w' g := by
  intro i hi
  obtain ⟨A, c, l, h1, h2⟩ := h i hi
  obtain ⟨m, rfl⟩ := hq
  exact ⟨A, c, l, h1, h2.q ⟨m, rfl⟩⟩
theorem Five.e {w w' : World} {g : Nat} (h : Five w g) (he : E w w') : Five w' g := by
  intro i hi
  obtain ⟨A, c, l, h1, h2⟩ := h i hi
  exact ⟨A, c, l, (he.cell (World.block_lt_of_cell? _ _ h1)).trans h1, h2.e he⟩
theorem sKeepE {N : Nat} {w0 w1 w2 : World} (h : N ≤ w1.heap.size ∧ ∀ b o, b < N → w1.cell? ⟨b, o, none⟩ = w0.cell? ⟨b, o, none⟩) (hE : E w1 w2) : N ≤ w2.heap.size ∧ ∀ b o, b < N → w2.cell? ⟨b, o, none⟩ = w0.cell? ⟨b, o, none⟩ :=
  ⟨Nat.le_trans h.1 hE.le, fun b o hb => (hE.cell (p := ⟨b, o, none⟩) (by have := h.1; show b < _; omega)).trans (h.2 b o hb)⟩
theorem four_get {w : World} {A : Option Addr} {c : Nat} {l : List Int} (h : Nums .i64 w A 4 c l) : ∃ g o x y z u, A = some ⟨g, o, none⟩ ∧ g < w.heap.size ∧ w.cell? ⟨g, o, none⟩ = some (.int .i64 x) ∧ w.cell? ⟨g, o + 1, none⟩ = some (.int .i64 y) ∧ w.cell? ⟨g, o + 2, none⟩ = some (.int .i64 z) ∧ w.cell? ⟨g, o + 3, none⟩ = some (.int .i64 u) := by
  obtain ⟨g, o, x, rfl, hg, _, _, c0⟩ := h.get (i := 0) (by omega)
  obtain ⟨g1, o1, y, e1, _, _, _, c1⟩ := h.get (i := 1) (by omega)
  obtain ⟨g2, o2, z, e2, _, _, _, c2⟩ := h.get (i := 2) (by omega)
  obtain ⟨g3, o3, u, e3, _, _, _, c3⟩ := h.get (i := 3) (by omega)
  injection e1 with e1; injection e1 with e1 e1'; subst e1 e1'
  injection e2 with e2; injection e2 with e2 e2'; subst e2 e2'
  injection e3 with e3; injection e3 with e3 e3'; subst e3 e3'
  exact ⟨g, o, x, y, z, u, rfl, hg, c0, c1, c2, c3⟩
set_option maxHeartbeats 4000000 in
set_option maxRecDepth 100000 in
theorem shareCompare_w (a b c d : Int) (w : World) (a1 : -9223372036854775808 ≤ a) (a2 : a ≤ 9223372036854775807) (b1 : -9223372036854775808 ≤ b) (b2 : b ≤ 9223372036854775807) (c1 : -9223372036854775808 ≤ c) (c2 : c ≤ 9223372036854775807) (d1 : -9223372036854775808 ≤ d) (d2 : d ≤ 9223372036854775807) :
    Calls Try.prog 9 #[.int .i64 a, .int .i64 b, .int .i64 c, .int .i64 d] w (RetT w true) := by
  go_enter Try.func9, Try.ntmps9
  go_wp2_with fail
  have N0 : Nums .i64 (w.alloc (.cells #[.int .i64 a, .int .i64 b, .int .i64 c, .int .i64 d] 3)) (some ⟨w.heap.size, 0, none⟩) 4 4 [a, b, c, d] := nums_at .i64 w w.heap.size rfl [a, b, c, d] 3 (by simp) (by simp; exact ⟨wf_of_i64 a1 a2, wf_of_i64 b1 b2, wf_of_i64 c1 c2, wf_of_i64 d1 d2⟩)
  have hE0 := (E.refl w).alloc (.cells #[.int .i64 a, .int .i64 b, .int .i64 c, .int .i64 d] 3)
  generalize w.alloc (.cells #[.int .i64 a, .int .i64 b, .int .i64 c, .int .i64 d] 3) = w0 at *
  generalize hl0 : [a, b, c, d] = l at *
  generalize hz : w.heap.size = z at *
  have HZ := Lib.hid hz
  clear hz hl0
  go_loopw [10, 11, 12] (fun tm ts ti wr => ∃ (k cm cs : Nat) (Am As : Option Addr), k ≤ 4 ∧ ti = .int .i64 k ∧ tm = .slice Am k cm ∧ ts = .slice As k cs ∧ Own .i64 3 wr w0.heap.size Am k cm (arL l k) ∧ Own .i64 3 wr w0.heap.size As k cs (arS l k) ∧ apartS Am As ∧ E w0 wr) (fun _ _ ti _ => 4 - (intOf ti).toNat)
  case atStart => exact ⟨0, 0, 0, none, none, Nat.zero_le _, rfl, rfl, rfl, Own.nil _ _ _ _, Own.nil _ _ _ _, apart_none _, E.refl _⟩
  case round =>
    obtain ⟨k, cm, cs, Am, As, hk, rfl, rfl, rfl, hm, hs, hap, hE⟩ := hrel
    obtain ⟨wi, rfl⟩ : ∃ wo : World, wo = wr := ⟨_, rfl⟩
    have hle := hE.le
    by_cases hlt : (k : Int) < 4
    · obtain ⟨g0, o0, x, e0, _, hx, hwx, hck⟩ := (N0.e hE).get (i := k) (by omega)
      injection e0 with e0; injection e0 with e0 e0'; subst e0 e0'
      rw [Nat.zero_add] at hck
      obtain ⟨x0, x1⟩ := wf_i64 hwx
      obtain ⟨y, hy⟩ : ∃ y, x % 1152921504606846977 = y := ⟨_, rfl⟩
      have HM := Lib.hid (show arL l (k + 1) = arL l k ++ [y] by rw [← hy]; exact map_snoc (f := fun x => x % 1152921504606846977) hx)
      have HS := Lib.hid (show arS l (k + 1) = arS l k ++ [y % 7] by rw [← hy]; exact map_snoc (f := fun x => x % 1152921504606846977 % 7) hx)
      have y0 : 0 ≤ y := by omega
      have y1 : y ≤ 1152921504606846976 := by omega
      clear hx hwx
      have tok1 : True := trivial
      go_wp2_with (first
        | (go_at_call 12; refine (aroundR _ _ _ x0 x1 (by omega) (by omega)).mono ?_; rintro e w' ⟨rfl, rfl⟩)
        | (at_builtin; have _t := tok1; refine wpList_app1n intT3 _ rfl _ _ rfl _ _ _ _ _ rfl hm _ rfl (wf_of_i64 (by omega) (by omega)) (by omega) hle ?_; intro g' c3 w3 hm3 hG3 hB3 hor3; clear tok1 _t; have hs3 := hs.keptA hG3 hap.symm; have hap3 := apart_grow hap.symm (fun b hb => (hs.ltN b hb).2) hor3; have hle3 := Nat.le_trans hle hG3.size)
        | (at_builtin; refine wpList_app1n intT3 _ rfl _ _ rfl _ _ _ _ _ rfl hs3 _ rfl (wf_of_i64 (by omega) (by omega)) (by omega) hle3 ?_; intro g'' c4 w4 hs4 hG4 hB4 hor4; have hm4 := hm3.keptA hG4 hap3.symm; have hap4 := apart_grow hap3.symm (fun b hb => (hm3.ltN b hb).2) hor4))
      rw [← HM.out] at hm4
      rw [← HS.out] at hs4
      go_roundw
      case rel => exact ⟨k + 1, c3, c4, _, _, by omega, by go_num, rfl, rfl, hm4, hs4, hap4, (hE.up hB3).up hB4⟩
      case measure => simp [intOf]; omega
    · obtain rfl : k = 4 := by omega
      obtain ⟨gm, m0, rfl, _, _, hm0, _, cm0, _⟩ := hm.get (i := 0) (by omega)
      obtain ⟨m1, _, hgm, hm1, _, cm1, _⟩ := hm.getg (i := 1) (by omega)
      have r0 : 0 ≤ m0 ∧ m0 ≤ 1152921504606846976 := by
        have := List.mem_of_getElem? hm0
        simp only [arL, List.mem_map] at this
        obtain ⟨y, _, rfl⟩ := this
        omega
      have r1 : 0 ≤ m1 ∧ m1 ≤ 1152921504606846976 := by
        have := List.mem_of_getElem? hm1
        simp only [arL, List.mem_map] at this
        obtain ⟨y, _, rfl⟩ := this
        omega
      obtain ⟨r00, r01⟩ := r0
      obtain ⟨r10, r11⟩ := r1
      have Nl := N0.e hE
      have Nm := hm.reads
      have Ns := hs.reads
      have hEw := hE0.trans hE
      clear hm0 hm1 N0 hE0 hE hle
      have NX := nums4 m0 m1 (IntKind.i64.wrap (m0.tdiv 2)) (IntKind.i64.wrap (m1.tdiv 2)) (wf_of_i64 (by omega) (by omega)) (wf_of_i64 (by omega) (by omega)) (wf_wrapI _) (wf_wrapI _) 3
      have NY := nums4 (IntKind.i64.wrap (m0.tdiv 3)) (IntKind.i64.wrap (m1.tdiv 3)) (IntKind.i64.wrap (m0.tdiv 3)) (max 0 (IntKind.i64.wrap (IntKind.i64.wrap (m1.tdiv 3) - 1))) (wf_wrapI _) (wf_wrapI _) (wf_wrapI _) (wf_max (wf_wrapI _)) 3
      go_upto_region 9 with fail
      go_cut [14] (fun s14 wx => ∃ ga : Nat, s14 = .slice (some ⟨ga, 0, none⟩) 5 5 ∧ Five wx ga ∧ E w wx)
      case first =>
        go_region_held3 (fun w' => wi.heap.size ≤ w'.heap.size ∧ ∀ b o, b < wi.heap.size → w'.cell? ⟨b, o, none⟩ = wi.cell? ⟨b, o, none⟩) (exact sOfE (by repeat (first | exact E.refl _ | apply E.drew | apply E.alloc))) (fail)
        all_goals go_wp2_with fail
        all_goals go_meet
        all_goals refine ⟨wi.heap.size + 1 + 1, rfl, ?_, by repeat (first | exact hEw | apply E.drew | apply E.alloc)⟩
        all_goals (first
          | exact five_mk (by simp) rfl ((Nl.e ((E.refl _).alloc _)).e ((E.refl _).alloc _)) ((Nm.e ((E.refl _).alloc _)).e ((E.refl _).alloc _)) ((Ns.e ((E.refl _).alloc _)).e ((E.refl _).alloc _)) ((NX wi _ rfl).e ((E.refl _).alloc _)) (NY (wi.alloc _) _ (by simp))
          | exact five_mk (by simp) rfl ((Nl.e ((E.refl _).alloc _)).e ((E.refl _).alloc _)) ((Nm.e ((E.refl _).alloc _)).e ((E.refl _).alloc _)) ((Ns.e ((E.refl _).alloc _)).e ((E.refl _).alloc _)) (NX (wi.alloc _) _ (by simp)) ((NY wi _ rfl).e ((E.refl _).alloc _)))
      case rest =>
        obtain ⟨ga, rfl, hF, hE2⟩ := hcut
        clear NX NY Nl Nm Ns hEw cm0 cm1 hm hs hap
        generalize wc = w5 at *
        go_wp2_with fail
        go_loopw [15] (fun ti wr => ∃ i : Nat, i ≤ 5 ∧ ti = .int .i64 i ∧ Five wr ga ∧ E w wr) (fun ti _ => 5 - (intOf ti).toNat)
        case atStart => exact ⟨0, Nat.zero_le _, rfl, hF, hE2⟩
        case round =>
          clear hF hE2
          obtain ⟨i, hi, rfl, hF, hE⟩ := hrel
          obtain ⟨wi', rfl⟩ : ∃ wo : World, wo = wr := ⟨_, rfl⟩
          by_cases hlt : (i : Int) < 5
          · obtain ⟨A, c', l', hc, hN⟩ := hF i (by omega)
            have hc' := hN.c63
            obtain ⟨gl, o, x, y, zz, u, rfl, hgl, f0, f1, f2, f3⟩ := four_get hN
            have hgb := World.block_lt_of_cell? _ _ hc
            have P1 := Lib.hid (compare_c x y zz u)
            have P2 := Lib.hid (refCompare_c x y zz u)
            generalize cmpV x y zz u = v1 at *
            generalize cmpX x y zz u = v2 at *
            have hcap := hN.cap
            clear hN
            go_upto_region 13 with fail
            go_region_held3 (fun w' => wi'.heap.size ≤ w'.heap.size ∧ ∀ b o, b < wi'.heap.size → w'.cell? ⟨b, o, none⟩ = wi'.cell? ⟨b, o, none⟩) (first | exact ⟨Nat.le_refl _, fun _ _ _ => rfl⟩ | exact sKeepE (by assumption) (by assumption))
              (first | (go_at_call 24; refine (P1.out _).mono ?_; rintro e w7 ⟨rfl, hE7⟩))
            have hE8 : E wi' w7 := ((E.refl wi').drew).trans hE7
            replace hc := (hE8.cell hgb).trans hc
            replace f0 := (hE8.cell (p := ⟨gl, o, none⟩) hgl).trans f0
            replace f1 := (hE8.cell (p := ⟨gl, o + 1, none⟩) hgl).trans f1
            replace f2 := (hE8.cell (p := ⟨gl, o + 2, none⟩) hgl).trans f2
            replace f3 := (hE8.cell (p := ⟨gl, o + 3, none⟩) hgl).trans f3
            replace hF := hF.e hE8
            replace hE := hE.trans hE8
            clear hE7 hE8 hgl hgb
            go_wp2_with fail
            go_quiet ((go_at_call 25; exact quietQ (P2.out _)))
            go_wp2_with fail
            go_roundw
            case rel => exact ⟨i + 1, by omega, by go_num, hF.q ⟨_, rfl⟩, hE.drewN _⟩
            case measure => simp [intOf]; omega
          · go_wp2_with fail
            refine (shLives_c _).mono ?_
            rintro e w6 ⟨rfl, hE6⟩
            go_wp2_with fail
            go_ret
            exact ⟨rfl, hE.trans hE6⟩
end Go.Proofs.Ytkbdmicnmddikaa
