/- Lemmas of the claim, joined: LawOR. No condition. -/
import Derived.Test.YtmeplpiamkaniaaJM
import Derived.Test.YtmeplpiamkaniaaJF
import Derived.Test.YtmeplpiamkaniaaJH
import Derived.Test.YtmeplpiamkaniaaJI
import Derived.Test.YtmeplpiamkaniaaJC
/- OriginRoots: Sources and Roots keep the number of units; the roots of the sources; a lot cut into two. -/
namespace Go.Proofs.Ytmeplpiamkaniaa
set_option linter.unusedVariables false
set_option linter.unusedSimpArgs false
open Go.RowKit

set_option linter.unusedSimpArgs false in
set_option maxHeartbeats 16000000 in
set_option maxRecDepth 100000 in
theorem originRoots_w (A0 : Option Addr) (n0 c0 : Nat) (l0 : List Int) (A1 : Option Addr) (n1 c1 : Nat) (l1 : List Int) (cut : Int) (w : World) (h0 : Nums .i64 w A0 n0 c0 l0) (h1 : Nums .i64 w A1 n1 c1 l1) (hc1 : -9223372036854775808 ≤ cut) (hc2 : cut ≤ 9223372036854775807) :
    Calls Try.prog 8 #[.slice A0 n0 c0, .slice A1 n1 c1, .int .i64 cut] w (RetK w true) := by
  have HFL := Lib.hid (refFlows_c A0 n0 c0 l0 w h0)
  have H1 := Lib.hid h1
  clear h0 h1
  go_enter Try.func8, Try.ntmps8
  go_upto_region 2 with (go_at_call 9; refine HFL.out.mono ?_; rintro e w1 ⟨fs, A7, n7, c7, hGen, hn9, rfl, hF, hE1⟩)
  have HGE := Lib.hid hGen
  have HF := Lib.hid hF
  have HE1 := Lib.hid hE1
  have HN9 := Lib.hid hn9
  have HNW := Lib.hid (newOk_c A7 n7 c7 fs w1 hF (by omega) hGen.made hGen.ok)
  clear hGen hF hE1 hn9
  go_upto_region 5 with (go_at_call 10; refine HNW.out.mono ?_; rintro e w2 ⟨g, X, rfl, hG, hE2, hX2⟩)
  have HG := Lib.hid hG
  have HE2 := Lib.hid hE2
  have HLT := Lib.hid (show Calls Try.prog 12 #[.slice A7 n7 c7, .slice A1 n1 c1, .int .i64 0] w2 (RetSome w2) from refLot_c A7 n7 c7 fs A1 n1 c1 l1 0 w2 (HF.out.e hE2) HGE.out.rng (H1.out.e (HE1.out.trans hE2)) (by omega))
  clear hG hE2 hX2 HNW
  go_upto_region 6 with (go_at_call 12; refine HLT.out.mono ?_; rintro e w3 ⟨x, hwx, he, hE3⟩; unfold ltV at he; subst he)
  obtain ⟨w4, hw4⟩ : ∃ w4, w3.alloc (.cells #[.int .i64 x.1, .int .i64 x.2.1, .int .i64 x.2.2] 32) = w4 := ⟨_, rfl⟩
  have hE4 : E w3 w4 := by rw [← hw4]; exact (E.refl w3).alloc _
  have hbx : LtBox w4 w3.heap.size x := by rw [← hw4]; exact LtBox.new w3 x
  try rw [hw4]
  have HBX := Lib.hid hbx
  have HWX := Lib.hid hwx
  have HE24 := Lib.hid (hE3.trans hE4)
  obtain ⟨r, hr⟩ := HGE.out.ok.root
  have HR := Lib.hid hr
  have HRT := Lib.hid (fun W (y : Lt) (hE : E w2 W) (hy : WfL y) => gRoots_c X g fs r y W (HG.out.e hE) hr hy (fun h => HGE.out.has300 HN9.out h))
  have HC := Lib.hid (HGE.out.c2304 HN9.out)
  obtain ⟨P, hP⟩ : ∃ P, rootF fs r x = P := ⟨_, rfl⟩
  have HP := Lib.hid hP
  obtain ⟨bv, hbv⟩ : ∃ bv, hasF fs x = bv := ⟨_, rfl⟩
  have HBV := Lib.hid hbv
  have HRX := Lib.hid (HRT.out w4 x HE24.out hwx)
  rw [hP] at HRX
  have HOF := Lib.hid (fun W (hE : E w1 W) => refOf_c A7 n7 c7 fs x W (HF.out.e hE) hwx)
  rw [hbv] at HOF
  have HSO := Lib.hid (fun W (hE : E w2 W) => gSources_c X g fs x W (HG.out.e hE) hwx)
  rw [hbv] at HSO
  unfold ltV at HRX HOF HSO
  obtain ⟨d0, d1, d2⟩ := hbx.cells
  clear hw4 hE3 hE4 hbx hwx hr hP hbv HLT
  go_upto_region 7 with (go_at_call 19; refine HRX.out.mono ?_; rintro e w5 ⟨A11, n11, c11, rfl, hO11, hE5⟩)
  have HE25 := Lib.hid (HE24.out.trans hE5)
  have HBX5 := Lib.hid (HBX.out.e hE5)
  have HN11 := Lib.hid hO11.1
  have R11 := Lib.hid hO11.reads
  have hn11 := hO11.reads.n63
  have HLV := Lib.hid (fun W => lives15_c W)
  clear d0 d1 d2 hO11 hE5 HRX
  obtain ⟨d0, d1, d2⟩ := HBX5.out.cells
  cases bv
  · have hP0 : P = [] := by rw [← HP.out, rootF, HBV.out]; rfl
    have h0 : n11 = 0 := by rw [← HN11.out, hP0]; rfl
    subst h0
    clear hP0
    go_wp2_with (first
      | (go_at_call 24; refine (HOF.out w5 (HE2.out.trans HE25.out)).mono ?_; rintro e w6 ⟨rfl, hE6⟩)
      | (go_at_call 16; refine (HLV.out _).mono ?_; rintro e w7 ⟨rfl, hE7⟩))
    go_ret
    exact ⟨rfl, (((HE1.out.trans HE2.out).trans HE25.out).trans hE6).trans hE7⟩
  · simp only [if_true] at HSO
    go_upto_region 9 with (go_at_call 24; refine (HOF.out w5 (HE2.out.trans HE25.out)).mono ?_; rintro e w6 ⟨rfl, hE6⟩)
    have HE26 := Lib.hid (HE25.out.trans hE6)
    have HBX6 := Lib.hid (HBX5.out.e hE6)
    have R6 := Lib.hid (R11.out.e hE6)
    clear d0 d1 d2 hE6
    obtain ⟨d0, d1, d2⟩ := HBX6.out.cells
    obtain ⟨s, hs⟩ : ∃ s, srcF fs x = s := ⟨_, rfl⟩
    have HSF := Lib.hid hs
    rw [hs] at HSO
    clear hs
    go_upto_region 12 with (go_at_call 17; refine (HSO.out w6 HE26.out).mono ?_; rintro e w7 ⟨A12, n12, c12, rfl, hO12, hE7⟩)
    have HE27 := Lib.hid (HE26.out.trans hE7)
    have HBX7 := Lib.hid (HBX6.out.e hE7)
    have RR7 := Lib.hid (R6.out.e hE7)
    have HN12 := Lib.hid hO12.1
    have R12 := Lib.hid hO12.reads
    have hn12 := hO12.reads.n63
    clear d0 d1 d2 hO12 hE7
    have HSH := Lib.hid (fun y (hy : y ∈ s) => show hasF fs y = true from srcF_has HGE.out.ok y (by rw [HSF.out]; exact hy))
    have hle := Lib.hid (show (U s).length ≤ 4096 ∧ ∀ u ∈ (U s).map r, InG fs u by
      by_cases hne : s = []
      · subst hne; exact ⟨by simp [U_nil], by simp [U_nil]⟩
      · have := upR_facts HGE.out.ok HR.out HBV.out (by rw [HSF.out]; exact hne)
        rw [HSF.out] at this
        exact ⟨by have := HC.out; omega, this.1⟩)
    have hn12s : n12 ≤ 5000 := by
      have h1 := len_units (l := s) (fun y hy => by obtain ⟨_, _, _, _, _, h5, _⟩ := has_get (HSH.out y hy); exact h5)
      have h2 := HN12.out
      have h3 := hle.out.1
      omega
    go_loopw [13, 14] (fun t13 t14 wr => ∃ (i n5 c5 : Nat) (A5 : Option Addr), i ≤ n12 ∧ t14 = .int .i64 i ∧ t13 = .slice A5 n5 c5 ∧ LotsAt wr A5 n5 c5 (glue (upU r s i [] 0)) ∧ E w7 wr) (fun _ t14 _ => n12 - (intOf t14).toNat)
    case atStart => exact ⟨0, 0, 0, none, Nat.zero_le _, rfl, rfl, LotsAt.nil _ _ _ (Nat.zero_le _), E.refl _⟩
    case round =>
      obtain ⟨i, n5, c5, A5, hi, rfl, rfl, hO, hE⟩ := hrel
      by_cases hlt : i < n12
      · obtain ⟨b, o, y, rfl, hb, hy, hwy, d0, d1, d2⟩ := (R12.out.e hE).get hlt
        have hiI : (i : Int) < (n12 : Int) := by omega
        have HRY := Lib.hid (HRT.out wr y (HE27.out.trans hE) hwy)
        have HY := Lib.hid hy
        have HYH := Lib.hid (HSH.out y (List.mem_of_getElem? hy))
        have HEI := Lib.hid hE
        have HOI := Lib.hid hO
        clear hy hwy hE hO
        obtain ⟨wq, hwq⟩ : ∃ wq, wq = wr := ⟨_, rfl⟩
        subst hwq
        try unfold ltV at HRY
        go_wp2_with (go_at_call 19; refine HRY.out.mono ?_; rintro e w8 ⟨A15, n15, c15, rfl, hO15, hE8⟩)
        have HN15 := Lib.hid hO15.1
        have R15 := Lib.hid hO15.reads
        have hn15 := hO15.reads.n63
        have HUP := Lib.hid (up_sub (r := r) HY.out HYH.out)
        have HE8 := Lib.hid (HEI.out.trans hE8)
        have HST := Lib.hid (show LotsAt w8 A5 n5 c5 (glue (upU r s i (rootF fs r y) 0)) from by rw [show upU r s i (rootF fs r y) 0 = upU r s i [] 0 by simp [upU]]; exact HOI.out.e hE8)
        clear hO15 hE8 d0 d1 d2
        go_loopw [13, 16] (fun t13 t16 wr => ∃ (k n5 c5 : Nat) (A5 : Option Addr), k ≤ n15 ∧ t16 = .int .i64 k ∧ t13 = .slice A5 n5 c5 ∧ LotsAt wr A5 n5 c5 (glue (upU r s i (rootF fs r y) k)) ∧ E w8 wr) (fun _ t16 _ => n15 - (intOf t16).toNat)
        case atStart => exact ⟨0, n5, c5, A5, Nat.zero_le _, rfl, rfl, HST.out, E.refl _⟩
        case round =>
          obtain ⟨k, n5, c5, A5, hk, rfl, rfl, hO, hE⟩ := hrel
          by_cases hkl : k < n15
          · obtain ⟨b9, o9, z, rfl, hb9, hz, hwz, d0, d1, d2⟩ := (R15.out.e hE).get hkl
            have hkI : (k : Int) < (n15 : Int) := by omega
            have hzh := rootF_has HGE.out.ok HR.out z (List.mem_of_getElem? hz)
            obtain ⟨u1, u2⟩ := HUP.out k
            have HPU := Lib.hid (lPut_c z _ _ _ _ wr hO hwz)
            have HEQ := Lib.hid (show putS (glue (upU r s i (rootF fs r y) k)) z = glue (upU r s i (rootF fs r y) (k + 1)) by
              rw [put_glue HGE.out.ok (fun u hu => hle.out.2 u (u1 u hu)) (Nat.le_trans u2 hle.out.1) hzh, up_one hz])
            have HEI2 := Lib.hid hE
            clear hz hzh u1 u2 hE hO hwz
            try unfold ltV at HPU
            go_wp2_with (go_at_call 34; refine HPU.out.mono ?_; rintro e w9 ⟨A6, n6, c6, rfl, hO6, hE6⟩)
            rw [HEQ.out] at hO6
            have hO6' := hO6.reads
            clear hO6
            go_roundw
            case rel => exact ⟨k + 1, n6, c6, A6, by omega, by go_num, rfl, hO6', HEI2.out.trans hE6⟩
            case measure => simp [intOf]; omega
          · have hkn : k = (rootF fs r y).length := by have := HN15.out; omega
            have hO' := hO
            rw [hkn, up_next HY.out HYH.out] at hO'
            have HO' := Lib.hid hO'
            have HE' := Lib.hid (HE8.out.trans hE)
            clear hkn hO' hO hE
            go_wp2_with fail
            go_roundw
            case rel => exact ⟨i + 1, n5, c5, A5, by omega, by go_num, rfl, HO'.out, HE'.out⟩
            case measure => simp [intOf]; omega
      · have hin : i = s.length := by have := HN12.out; omega
        rw [hin] at hO
        have HUP := Lib.hid hO
        have HET := Lib.hid hE
        have HBT := Lib.hid (HBX7.out.e hE)
        have hxn := has_get HBV.out
        obtain ⟨_, _, _, _, hx0, hx1, _⟩ := hxn
        have hx2 := HGE.out.has300 HN9.out HBV.out
        have HTS := Lib.hid (fun (hne : s ≠ []) => show totalS s = x.2.2 by
          have := src_total HGE.out.ok HBV.out (by have := HC.out; omega) (by rw [HSF.out]; exact hne)
          rwa [HSF.out] at this)
        have HTR := Lib.hid (show totalS P = x.2.2 by rw [← HP.out]; exact root_total HGE.out.ok HR.out HBV.out (by have := HC.out; omega))
        have HSU := Lib.hid (fun (hne : s ≠ []) => show glue (upU r s s.length [] 0) = P by
          have := up_done HGE.out.ok HR.out HBV.out (by rw [HSF.out]; exact hne)
          rw [HSF.out, HP.out] at this
          exact this)
        have HC1 := Lib.hid (fun W (hE : E wr W) => total_c A12 n12 c12 s W (R12.out.e (HET.out.trans hE)))
        have HC2 := Lib.hid (fun W (hE : E wr W) => sameL_c A5 A11 n5 c5 n11 c11 _ P W (HUP.out.e hE) (RR7.out.e (HET.out.trans hE)))
        have HC3 := Lib.hid (fun W (hE : E wr W) => total_c A11 n11 c11 P W (RR7.out.e (HET.out.trans hE)))
        rw [HTR.out] at HC3
        clear hin hO hE hi
        obtain ⟨wz, hwz⟩ : ∃ wz, wz = wr := ⟨_, rfl⟩
        subst hwz
        obtain ⟨d0, d1, d2⟩ := HBT.out.cells
        clear d0 d1 d2
        go_upto_region 19 with fail
        go_cut [102] (fun t102 wx => t102 = .bool false ∧ E wz wx)
        case first =>
          have hEa := (E.refl wz).drew
          by_cases hz : n12 = 0
          · subst hz
            refine wp_region_held_drew (S := (fun W => W.cell? ⟨w3.heap.size, 2, none⟩ = some (.int .i64 x.2.2))) (by kernel_rfl) (HBT.out.e hEa).cells.2.2 (fun hHeld => ?_)
            (((refine wpAnyH_take (i := 0) (v := ?_) rfl (by kernel_rfl) (by kernel_rfl) (by kernel_rfl) (fun _ _ _ h => h) (Or.inl ⟨by kernel_rfl, ?_⟩) (by assumption) ?_); rotate_left 1; (focus (intro w hSw; (try dsimp only at hSw); go_simp; (try with_reducible rfl))); (try simp only [Act.put, List.setIfInBounds_toArray, List.set_cons_zero, List.set_cons_succ])); ((refine wpAnyH_take (i := 1) (v := ?_) rfl (by kernel_rfl) (by kernel_rfl) (by kernel_rfl) (fun _ _ _ h => h) (Or.inl ⟨by kernel_rfl, ?_⟩) (by assumption) ?_); rotate_left 1; (focus (intro w hSw; (try dsimp only at hSw); go_simp; (try with_reducible rfl))); (try simp only [Act.put, List.setIfInBounds_toArray, List.set_cons_zero, List.set_cons_succ])); ((refine wpAnyH_take (i := 2) (v := ?_) rfl (by kernel_rfl) (by kernel_rfl) (by kernel_rfl) (fun _ _ _ h => h) (Or.inl ⟨by kernel_rfl, ?_⟩) (by assumption) ?_); rotate_left 1; (focus (intro w hSw; (try dsimp only at hSw); go_simp; (try with_reducible rfl))); (try simp only [Act.put, List.setIfInBounds_toArray, List.set_cons_zero, List.set_cons_succ])); ((refine wpAnyH_take (i := 3) (v := ?_) rfl (by kernel_rfl) (by kernel_rfl) (by kernel_rfl) (fun _ _ _ h => h) (Or.inl ⟨by kernel_rfl, ?_⟩) (by assumption) ?_); rotate_left 1; (focus (intro w hSw; (try dsimp only at hSw); go_simp; (try with_reducible rfl))); (try simp only [Act.put, List.setIfInBounds_toArray, List.set_cons_zero, List.set_cons_succ])))
            (((refine wpAnyH_take (i := 4) (v := undef) rfl (by kernel_rfl) (by kernel_rfl) (by kernel_rfl) (fun _ _ _ h => h) (Or.inr ⟨by kernel_rfl, rfl⟩) (by assumption) ?_); (try simp only [Act.put, List.setIfInBounds_toArray, List.set_cons_zero, List.set_cons_succ])); ((refine wpAnyH_take (i := 5) (v := undef) rfl (by kernel_rfl) (by kernel_rfl) (by kernel_rfl) (fun _ _ _ h => h) (Or.inr ⟨by kernel_rfl, rfl⟩) (by assumption) ?_); (try simp only [Act.put, List.setIfInBounds_toArray, List.set_cons_zero, List.set_cons_succ])); ((refine wpAnyH_take (i := 6) (v := undef) rfl (by kernel_rfl) (by kernel_rfl) (by kernel_rfl) (fun _ _ _ h => h) (Or.inr ⟨by kernel_rfl, rfl⟩) (by assumption) ?_); (try simp only [Act.put, List.setIfInBounds_toArray, List.set_cons_zero, List.set_cons_succ])); ((refine wpAnyH_take (i := 7) (v := undef) rfl (by kernel_rfl) (by kernel_rfl) (by kernel_rfl) (fun _ _ _ h => h) (Or.inr ⟨by kernel_rfl, rfl⟩) (by assumption) ?_); (try simp only [Act.put, List.setIfInBounds_toArray, List.set_cons_zero, List.set_cons_succ])); ((refine wpAnyH_take (i := 8) (v := undef) rfl (by kernel_rfl) (by kernel_rfl) (by kernel_rfl) (fun _ _ _ h => h) (Or.inr ⟨by kernel_rfl, rfl⟩) (by assumption) ?_); (try simp only [Act.put, List.setIfInBounds_toArray, List.set_cons_zero, List.set_cons_succ])); ((refine wpAnyH_take (i := 9) (v := undef) rfl (by kernel_rfl) (by kernel_rfl) (by kernel_rfl) (fun _ _ _ h => h) (Or.inr ⟨by kernel_rfl, rfl⟩) (by assumption) ?_); (try simp only [Act.put, List.setIfInBounds_toArray, List.set_cons_zero, List.set_cons_succ])); ((refine wpAnyH_take (i := 10) (v := undef) rfl (by kernel_rfl) (by kernel_rfl) (by kernel_rfl) (fun _ _ _ h => h) (Or.inr ⟨by kernel_rfl, rfl⟩) (by assumption) ?_); (try simp only [Act.put, List.setIfInBounds_toArray, List.set_cons_zero, List.set_cons_succ])); ((refine wpAnyH_take (i := 11) (v := undef) rfl (by kernel_rfl) (by kernel_rfl) (by kernel_rfl) (fun _ _ _ h => h) (Or.inr ⟨by kernel_rfl, rfl⟩) (by assumption) ?_); (try simp only [Act.put, List.setIfInBounds_toArray, List.set_cons_zero, List.set_cons_succ])); ((refine wpAnyH_take (i := 12) (v := undef) rfl (by kernel_rfl) (by kernel_rfl) (by kernel_rfl) (fun _ _ _ h => h) (Or.inr ⟨by kernel_rfl, rfl⟩) (by assumption) ?_); (try simp only [Act.put, List.setIfInBounds_toArray, List.set_cons_zero, List.set_cons_succ])); ((refine wpAnyH_take (i := 13) (v := undef) rfl (by kernel_rfl) (by kernel_rfl) (by kernel_rfl) (fun _ _ _ h => h) (Or.inr ⟨by kernel_rfl, rfl⟩) (by assumption) ?_); (try simp only [Act.put, List.setIfInBounds_toArray, List.set_cons_zero, List.set_cons_succ])); ((refine wpAnyH_take (i := 14) (v := undef) rfl (by kernel_rfl) (by kernel_rfl) (by kernel_rfl) (fun _ _ _ h => h) (Or.inr ⟨by kernel_rfl, rfl⟩) (by assumption) ?_); (try simp only [Act.put, List.setIfInBounds_toArray, List.set_cons_zero, List.set_cons_succ])))
            (((refine wpAnyH_take (i := 15) (v := ?_) rfl (by kernel_rfl) (by kernel_rfl) (by kernel_rfl) (fun _ _ _ h => h) (Or.inl ⟨by kernel_rfl, ?_⟩) (by assumption) ?_); rotate_left 1; (focus (intro w hSw; (try dsimp only at hSw); go_simp; (try with_reducible rfl))); (try simp only [Act.put, List.setIfInBounds_toArray, List.set_cons_zero, List.set_cons_succ])); ((refine wpAnyH_take (i := 16) (v := ?_) rfl (by kernel_rfl) (by kernel_rfl) (by kernel_rfl) (fun _ _ _ h => h) (Or.inl ⟨by kernel_rfl, ?_⟩) (by assumption) ?_); rotate_left 1; (focus (intro w hSw; (try dsimp only at hSw); go_simp; (try with_reducible rfl))); (try simp only [Act.put, List.setIfInBounds_toArray, List.set_cons_zero, List.set_cons_succ])); ((refine wpAnyH_take (i := 17) (v := ?_) rfl (by kernel_rfl) (by kernel_rfl) (by kernel_rfl) (fun _ _ _ h => h) (Or.inl ⟨by kernel_rfl, ?_⟩) (by assumption) ?_); rotate_left 1; (focus (intro w hSw; (try dsimp only at hSw); go_simp; (try with_reducible rfl))); (try simp only [Act.put, List.setIfInBounds_toArray, List.set_cons_zero, List.set_cons_succ])); ((refine wpAnyH_take (i := 19) (v := ?_) rfl (by kernel_rfl) (by kernel_rfl) (by kernel_rfl) (fun _ _ _ h => h) (Or.inl ⟨by kernel_rfl, ?_⟩) (by assumption) ?_); rotate_left 1; (focus (intro w hSw; (try dsimp only at hSw); go_simp; (try with_reducible rfl))); (try simp only [Act.put, List.setIfInBounds_toArray, List.set_cons_zero, List.set_cons_succ])); ((refine wpAnyH_take (i := 20) (v := ?_) rfl (by kernel_rfl) (by kernel_rfl) (by kernel_rfl) (fun _ _ _ h => h) (Or.inl ⟨by kernel_rfl, ?_⟩) (by assumption) ?_); rotate_left 1; (focus (intro w hSw; (try dsimp only at hSw); go_simp; (try with_reducible rfl))); (try simp only [Act.put, List.setIfInBounds_toArray, List.set_cons_zero, List.set_cons_succ])))
            (((refine wpAnyH_ready (rs := [18]) (by kernel_rfl) (by simp) ?_); (refine AllReadyH.cons rfl (fun K hK => ?_) AllReadyH.nil); (rw [if_pos (by kernel_rfl)]); go_simp))
            refine (HC3.out _ hEa).mono ?_
            rintro e wn ⟨rfl, hEn⟩
            replace hEa := hEa.trans hEn
            clear hEn
            refine hK _ _ (HBT.out.e hEa).cells.2.2 (fun hh => ?_)
            clear hK K hHeld
            have hHeld := hh
            clear hh
            (try simp only [Act.put, List.setIfInBounds_toArray, List.set_cons_zero, List.set_cons_succ])
            (((refine wpAnyH_take (i := 21) (v := ?_) rfl (by kernel_rfl) (by kernel_rfl) (by kernel_rfl) (fun _ _ _ h => h) (Or.inl ⟨by kernel_rfl, ?_⟩) (by assumption) ?_); rotate_left 1; (focus (intro w hSw; (try dsimp only at hSw); go_simp; (try with_reducible rfl))); (try simp only [Act.put, List.setIfInBounds_toArray, List.set_cons_zero, List.set_cons_succ])); ((refine wpAnyH_take (i := 22) (v := ?_) rfl (by kernel_rfl) (by kernel_rfl) (by kernel_rfl) (fun _ _ _ h => h) (Or.inl ⟨by kernel_rfl, ?_⟩) (by assumption) ?_); rotate_left 1; (focus (intro w hSw; (try dsimp only at hSw); go_simp; (try with_reducible rfl))); (try simp only [Act.put, List.setIfInBounds_toArray, List.set_cons_zero, List.set_cons_succ])))
            refine wpAnyH_done (by kernel_rfl) ?_ _
            go_simp
            go_wp2_with fail
            go_meet
            exact ⟨rfl, hEa⟩
          · have hnp : (0 : Int) < (n12 : Int) := by omega
            have hnN : 0 < n12 := by omega
            have hnd : decide (0 < n12) = true := by simpa using hnN
            have hne : s ≠ [] := fun e => hz (by rw [← HN12.out, e]; rfl)
            rw [HTS.out hne] at HC1
            rw [decide_eq_true (HSU.out hne)] at HC2
            clear hne
            refine wp_region_held_drew (S := (fun W => W.cell? ⟨w3.heap.size, 2, none⟩ = some (.int .i64 x.2.2))) (by kernel_rfl) (HBT.out.e hEa).cells.2.2 (fun hHeld => ?_)
            (((refine wpAnyH_take (i := 0) (v := ?_) rfl (by kernel_rfl) (by kernel_rfl) (by kernel_rfl) (fun _ _ _ h => h) (Or.inl ⟨by kernel_rfl, ?_⟩) (by assumption) ?_); rotate_left 1; (focus (intro w hSw; (try dsimp only at hSw); go_simp; (try with_reducible rfl))); (try simp only [Act.put, List.setIfInBounds_toArray, List.set_cons_zero, List.set_cons_succ])); ((refine wpAnyH_take (i := 1) (v := ?_) rfl (by kernel_rfl) (by kernel_rfl) (by kernel_rfl) (fun _ _ _ h => h) (Or.inl ⟨by kernel_rfl, ?_⟩) (by assumption) ?_); rotate_left 1; (focus (intro w hSw; (try dsimp only at hSw); go_simp; (try with_reducible rfl))); (try simp only [Act.put, List.setIfInBounds_toArray, List.set_cons_zero, List.set_cons_succ])); ((refine wpAnyH_take (i := 2) (v := ?_) rfl (by kernel_rfl) (by kernel_rfl) (by kernel_rfl) (fun _ _ _ h => h) (Or.inl ⟨by kernel_rfl, ?_⟩) (by assumption) ?_); rotate_left 1; (focus (intro w hSw; (try dsimp only at hSw); go_simp; (try with_reducible rfl))); (try simp only [Act.put, List.setIfInBounds_toArray, List.set_cons_zero, List.set_cons_succ])); ((refine wpAnyH_take (i := 3) (v := ?_) rfl (by kernel_rfl) (by kernel_rfl) (by kernel_rfl) (fun _ _ _ h => h) (Or.inl ⟨by kernel_rfl, ?_⟩) (by assumption) ?_); rotate_left 1; (focus (intro w hSw; (try dsimp only at hSw); go_simp; (try with_reducible rfl))); (try simp only [Act.put, List.setIfInBounds_toArray, List.set_cons_zero, List.set_cons_succ])); ((refine wpAnyH_take (i := 4) (v := ?_) rfl (by kernel_rfl) (by kernel_rfl) (by kernel_rfl) (fun _ _ _ h => h) (Or.inl ⟨by kernel_rfl, ?_⟩) (by assumption) ?_); rotate_left 1; (focus (intro w hSw; (try dsimp only at hSw); go_simp; (try with_reducible rfl))); (try simp only [Act.put, List.setIfInBounds_toArray, List.set_cons_zero, List.set_cons_succ])); ((refine wpAnyH_take (i := 6) (v := ?_) rfl (by kernel_rfl) (by kernel_rfl) (by kernel_rfl) (fun _ _ _ h => h) (Or.inl ⟨by kernel_rfl, ?_⟩) (by assumption) ?_); rotate_left 1; (focus (intro w hSw; (try dsimp only at hSw); go_simp; (try with_reducible rfl))); (try simp only [Act.put, List.setIfInBounds_toArray, List.set_cons_zero, List.set_cons_succ])); ((refine wpAnyH_take (i := 7) (v := ?_) rfl (by kernel_rfl) (by kernel_rfl) (by kernel_rfl) (fun _ _ _ h => h) (Or.inl ⟨by kernel_rfl, ?_⟩) (by assumption) ?_); rotate_left 1; (focus (intro w hSw; (try dsimp only at hSw); go_simp; (try with_reducible rfl))); (try simp only [Act.put, List.setIfInBounds_toArray, List.set_cons_zero, List.set_cons_succ])))
            (((refine wpAnyH_ready (rs := [5]) (by kernel_rfl) (by simp) ?_); (refine AllReadyH.cons rfl (fun K hK => ?_) AllReadyH.nil); (rw [if_pos (by kernel_rfl)]); go_simp))
            refine (HC1.out _ hEa).mono ?_
            rintro e wn ⟨rfl, hEn⟩
            replace hEa := hEa.trans hEn
            clear hEn
            refine hK _ _ (HBT.out.e hEa).cells.2.2 (fun hh => ?_)
            clear hK K hHeld
            have hHeld := hh
            clear hh
            (try simp only [Act.put, List.setIfInBounds_toArray, List.set_cons_zero, List.set_cons_succ])
            (((refine wpAnyH_take (i := 8) (v := ?_) rfl (by kernel_rfl) (by kernel_rfl) (by kernel_rfl) (fun _ _ _ h => h) (Or.inl ⟨by kernel_rfl, ?_⟩) (by assumption) ?_); rotate_left 1; (focus (intro w hSw; (try dsimp only at hSw); go_simp; (try with_reducible rfl))); (try simp only [Act.put, List.setIfInBounds_toArray, List.set_cons_zero, List.set_cons_succ])); ((refine wpAnyH_take (i := 9) (v := ?_) rfl (by kernel_rfl) (by kernel_rfl) (by kernel_rfl) (fun _ _ _ h => h) (Or.inl ⟨by kernel_rfl, ?_⟩) (by assumption) ?_); rotate_left 1; (focus (intro w hSw; (try dsimp only at hSw); go_simp; (try with_reducible rfl))); (try simp only [Act.put, List.setIfInBounds_toArray, List.set_cons_zero, List.set_cons_succ])))
            (((refine wpAnyH_take (i := 10) (v := ?_) rfl (by kernel_rfl) (by kernel_rfl) (by kernel_rfl) (fun _ _ _ h => h) (Or.inl ⟨by kernel_rfl, ?_⟩) (by assumption) ?_); rotate_left 1; (focus (intro w hSw; (try dsimp only at hSw); go_simp; (try with_reducible rfl))); (try simp only [Act.put, List.setIfInBounds_toArray, List.set_cons_zero, List.set_cons_succ])); ((refine wpAnyH_take (i := 11) (v := ?_) rfl (by kernel_rfl) (by kernel_rfl) (by kernel_rfl) (fun _ _ _ h => h) (Or.inl ⟨by kernel_rfl, ?_⟩) (by assumption) ?_); rotate_left 1; (focus (intro w hSw; (try dsimp only at hSw); go_simp; (try with_reducible rfl))); (try simp only [Act.put, List.setIfInBounds_toArray, List.set_cons_zero, List.set_cons_succ])))
            (((refine wpAnyH_ready (rs := [12]) (by kernel_rfl) (by simp) ?_); (refine AllReadyH.cons rfl (fun K hK => ?_) AllReadyH.nil); (rw [if_pos (by kernel_rfl)]); go_simp))
            refine (HC2.out _ hEa).mono ?_
            rintro e wn ⟨rfl, hEn⟩
            replace hEa := hEa.trans hEn
            clear hEn
            refine hK _ _ (HBT.out.e hEa).cells.2.2 (fun hh => ?_)
            clear hK K hHeld
            have hHeld := hh
            clear hh
            (try simp only [Act.put, List.setIfInBounds_toArray, List.set_cons_zero, List.set_cons_succ])
            (((refine wpAnyH_take (i := 13) (v := ?_) rfl (by kernel_rfl) (by kernel_rfl) (by kernel_rfl) (fun _ _ _ h => h) (Or.inl ⟨by kernel_rfl, ?_⟩) (by assumption) ?_); rotate_left 1; (focus (intro w hSw; (try dsimp only at hSw); go_simp; (try with_reducible rfl))); (try simp only [Act.put, List.setIfInBounds_toArray, List.set_cons_zero, List.set_cons_succ])); ((refine wpAnyH_take (i := 14) (v := ?_) rfl (by kernel_rfl) (by kernel_rfl) (by kernel_rfl) (fun _ _ _ h => h) (Or.inl ⟨by kernel_rfl, ?_⟩) (by assumption) ?_); rotate_left 1; (focus (intro w hSw; (try dsimp only at hSw); go_simp; (try with_reducible rfl))); (try simp only [Act.put, List.setIfInBounds_toArray, List.set_cons_zero, List.set_cons_succ])); ((refine wpAnyH_take (i := 15) (v := ?_) rfl (by kernel_rfl) (by kernel_rfl) (by kernel_rfl) (fun _ _ _ h => h) (Or.inl ⟨by kernel_rfl, ?_⟩) (by assumption) ?_); rotate_left 1; (focus (intro w hSw; (try dsimp only at hSw); go_simp; (try with_reducible rfl))); (try simp only [Act.put, List.setIfInBounds_toArray, List.set_cons_zero, List.set_cons_succ])); ((refine wpAnyH_take (i := 16) (v := ?_) rfl (by kernel_rfl) (by kernel_rfl) (by kernel_rfl) (fun _ _ _ h => h) (Or.inl ⟨by kernel_rfl, ?_⟩) (by assumption) ?_); rotate_left 1; (focus (intro w hSw; (try dsimp only at hSw); go_simp; (try with_reducible rfl))); (try simp only [Act.put, List.setIfInBounds_toArray, List.set_cons_zero, List.set_cons_succ])); ((refine wpAnyH_take (i := 17) (v := ?_) rfl (by kernel_rfl) (by kernel_rfl) (by kernel_rfl) (fun _ _ _ h => h) (Or.inl ⟨by kernel_rfl, ?_⟩) (by assumption) ?_); rotate_left 1; (focus (intro w hSw; (try dsimp only at hSw); go_simp; (try with_reducible rfl))); (try simp only [Act.put, List.setIfInBounds_toArray, List.set_cons_zero, List.set_cons_succ])); ((refine wpAnyH_take (i := 19) (v := ?_) rfl (by kernel_rfl) (by kernel_rfl) (by kernel_rfl) (fun _ _ _ h => h) (Or.inl ⟨by kernel_rfl, ?_⟩) (by assumption) ?_); rotate_left 1; (focus (intro w hSw; (try dsimp only at hSw); go_simp; (try with_reducible rfl))); (try simp only [Act.put, List.setIfInBounds_toArray, List.set_cons_zero, List.set_cons_succ])); ((refine wpAnyH_take (i := 20) (v := ?_) rfl (by kernel_rfl) (by kernel_rfl) (by kernel_rfl) (fun _ _ _ h => h) (Or.inl ⟨by kernel_rfl, ?_⟩) (by assumption) ?_); rotate_left 1; (focus (intro w hSw; (try dsimp only at hSw); go_simp; (try with_reducible rfl))); (try simp only [Act.put, List.setIfInBounds_toArray, List.set_cons_zero, List.set_cons_succ])))
            (((refine wpAnyH_ready (rs := [18]) (by kernel_rfl) (by simp) ?_); (refine AllReadyH.cons rfl (fun K hK => ?_) AllReadyH.nil); (rw [if_pos (by kernel_rfl)]); go_simp))
            refine (HC3.out _ hEa).mono ?_
            rintro e wn ⟨rfl, hEn⟩
            replace hEa := hEa.trans hEn
            clear hEn
            refine hK _ _ (HBT.out.e hEa).cells.2.2 (fun hh => ?_)
            clear hK K hHeld
            have hHeld := hh
            clear hh
            (try simp only [Act.put, List.setIfInBounds_toArray, List.set_cons_zero, List.set_cons_succ])
            (((refine wpAnyH_take (i := 21) (v := ?_) rfl (by kernel_rfl) (by kernel_rfl) (by kernel_rfl) (fun _ _ _ h => h) (Or.inl ⟨by kernel_rfl, ?_⟩) (by assumption) ?_); rotate_left 1; (focus (intro w hSw; (try dsimp only at hSw); go_simp; (try with_reducible rfl))); (try simp only [Act.put, List.setIfInBounds_toArray, List.set_cons_zero, List.set_cons_succ])); ((refine wpAnyH_take (i := 22) (v := ?_) rfl (by kernel_rfl) (by kernel_rfl) (by kernel_rfl) (fun _ _ _ h => h) (Or.inl ⟨by kernel_rfl, ?_⟩) (by assumption) ?_); rotate_left 1; (focus (intro w hSw; (try dsimp only at hSw); go_simp; (try with_reducible rfl))); (try simp only [Act.put, List.setIfInBounds_toArray, List.set_cons_zero, List.set_cons_succ])))
            refine wpAnyH_done (by kernel_rfl) ?_ _
            go_simp
            go_wp2_with fail
            go_meet
            exact ⟨rfl, hEa⟩
        case rest =>
          obtain ⟨rfl, hEc⟩ := hcut
          obtain ⟨wb, hwb, _⟩ : ∃ W, W = _ ∧ E wz W := ⟨_, rfl, hEc⟩
          subst hwb
          have HEb := Lib.hid (HET.out.trans hEc)
          have HBb := Lib.hid (HBT.out.e hEc)
          clear hEc HC1 HC2 HC3 HTS HSU HUP
          obtain ⟨d0, d1, d2⟩ := HBb.out.cells
          by_cases h2 : x.2.2 < 2
          · go_wp2_with (go_at_call 16; refine (HLV.out _).mono ?_; rintro e w10 ⟨rfl, hE10⟩)
            go_ret
            exact ⟨rfl, ((((HE1.out.trans HE2.out).trans HE27.out)).trans HEb.out).trans hE10⟩
          · have har := Lib.hid (fun W => aroundR cut (x.2.2 - 1) W hc1 hc2 (by omega) (by omega))
            have hm0 := Int.emod_nonneg cut (b := x.2.2 - 1) (by omega)
            have hm1 := Int.emod_lt_of_pos cut (b := x.2.2 - 1) (by omega)
            generalize cut % (x.2.2 - 1) = am at *
            obtain ⟨kk, hkk⟩ : ∃ kk, 1 + am = kk := ⟨_, rfl⟩
            have hwr1 : IntKind.i64.wrap (x.2.2 - 1) = x.2.2 - 1 := by rw [IntKind.wrap_i64]; omega
            have hwr2 : IntKind.i64.wrap (1 + am) = kk := by rw [IntKind.wrap_i64]; omega
            have hk1 : 1 ≤ kk := by omega
            have hk2 : kk < x.2.2 := by omega
            have hxs := has_n HBV.out
            have hcs := HC.out
            have hwr3 : IntKind.i64.wrap (x.2.1 + kk) = x.2.1 + kk := by rw [IntKind.wrap_i64]; omega
            have hwr4 : IntKind.i64.wrap (x.2.2 - kk) = x.2.2 - kk := by rw [IntKind.wrap_i64]; omega
            obtain ⟨cr1, cr2⟩ := cut_roots HGE.out.ok HR.out HBV.out (by omega) hk1 hk2
            rw [HP.out] at cr1 cr2
            have hwa : WfL (x.1, x.2.1, kk) := ⟨HWX.out.1, wf_of_i64 (by simp only; omega) (by simp only; omega), wf_of_i64 (by simp only; omega) (by simp only; omega)⟩
            have hwb : WfL (x.1, x.2.1 + kk, x.2.2 - kk) := ⟨HWX.out.1, wf_of_i64 (by simp only; omega) (by simp only; omega), wf_of_i64 (by simp only; omega) (by simp only; omega)⟩
            have HRA := Lib.hid (fun W (hE : E w7 W) => HRT.out W (x.1, x.2.1, kk) (HE27.out.trans hE) hwa)
            have HRB := Lib.hid (fun W (hE : E w7 W) => HRT.out W (x.1, x.2.1 + kk, x.2.2 - kk) (HE27.out.trans hE) hwb)
            have HSA := Lib.hid (fun W (hE : E w7 W) => slice_c 0 kk A11 n11 c11 P W (RR7.out.e hE) (by omega) (by omega) (by omega) (by omega))
            have HSB := Lib.hid (fun W (hE : E w7 W) => slice_c kk (x.2.2 - kk) A11 n11 c11 P W (RR7.out.e hE) (by omega) (by omega) (by omega) (by omega))
            rw [cr1] at HSA
            rw [cr2] at HSB
            generalize rootF fs r (x.1, x.2.1, kk) = Pa at *
            generalize rootF fs r (x.1, x.2.1 + kk, x.2.2 - kk) = Pb at *
            unfold ltV at HRA HRB
            simp only at HRA HRB
            clear cr1 cr2 hwa hwb hxs hcs hkk hm0 hm1
            go_upto_region 24 with (go_at_call 11; refine (har.out _).mono ?_; rintro e wy ⟨rfl, rfl⟩)
            go_upto_region 25 with (go_at_call 19; refine (HRA.out _ HEb.out).mono ?_; rintro e w10 ⟨A18, n18, c18, rfl, hO18, hE10⟩)
            have HE10 := Lib.hid (HEb.out.trans hE10)
            have R18 := Lib.hid hO18.reads
            clear d0 d1 d2 hO18
            obtain ⟨d0, d1, d2⟩ := (HBb.out.e hE10).cells
            clear hE10
            go_upto_region 26 with (go_at_call 19; refine (HRB.out _ HE10.out).mono ?_; rintro e w11 ⟨A19, n19, c19, rfl, hO19, hE11⟩)
            have HE11 := Lib.hid (HE10.out.trans hE11)
            have R18' := Lib.hid (R18.out.e hE11)
            have R19 := Lib.hid hO19.reads
            have hB11 := Lib.hid (HBb.out)
            clear hO19 d0 d1 d2 hE11
            go_upto_region 27 with (go_at_call 36; refine (HSA.out _ HE11.out).mono ?_; rintro e w12 ⟨A20, n20, c20, rfl, hO20, hE12⟩)
            have HE12 := Lib.hid (HE11.out.trans hE12)
            have R18'' := Lib.hid (R18'.out.e hE12)
            have R19' := Lib.hid (R19.out.e hE12)
            have R20 := Lib.hid hO20.reads
            clear hO20 hE12
            obtain ⟨d0, d1, d2⟩ := (HBX7.out.e HE12.out).cells
            go_upto_region 28 with (go_at_call 36; refine (HSB.out _ HE12.out).mono ?_; rintro e w13 ⟨A22, n22, c22, rfl, hO22, hE13⟩)
            have HE13 := Lib.hid (HE12.out.trans hE13)
            have HS1 := Lib.hid (fun W (hE : E w13 W) => same_self A18 A20 n18 c18 n20 c20 Pa W ((R18''.out.e hE13).e hE) ((R20.out.e hE13).e hE))
            have HS2 := Lib.hid (fun W (hE : E w13 W) => same_self A19 A22 n19 c19 n22 c22 Pb W ((R19'.out.e hE13).e hE) (hO22.reads.e hE))
            clear hO22 hE13 d0 d1 d2
            try simp only
            go_wp2_with fail
            refine (HS1.out _ (E.refl _)).mono ?_
            rintro e w14 ⟨rfl, hE14⟩
            go_wp2_with fail
            refine (HS2.out _ hE14).mono ?_
            rintro e w15 ⟨rfl, hE15⟩
            go_wp2_with fail
            refine (HLV.out _).mono ?_
            rintro e w16 ⟨rfl, hE16⟩
            go_wp2_with fail
            go_ret
            exact ⟨rfl, ((((HE1.out.trans HE2.out).trans HE27.out).trans HE13.out).trans hE14).trans (hE15.trans hE16)⟩
end Go.Proofs.Ytmeplpiamkaniaa
