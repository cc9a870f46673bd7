/- Lemmas of the claim, joined: LawOP. No condition. -/
import Derived.Test.YtmeplpiamkaniaaJM
import Derived.Test.YtmeplpiamkaniaaJF
import Derived.Test.YtmeplpiamkaniaaJH
import Derived.Test.YtmeplpiamkaniaaJI
/- OriginSpreads: each unit is later exactly if the set has it or its source is later. -/
namespace Go.Proofs.Ytmeplpiamkaniaa
set_option linter.unusedVariables false
set_option linter.unusedSimpArgs false
open Go.RowKit

theorem later_valid {fs : List Fl} {S l : List Lt} (hv : validB S = true) (hh : ∀ x ∈ S, hasF fs x = true) (h : LaterOf fs S l) : LatL fs (fun u => u ∈ U S) l := by
  rcases h with ⟨_, _, h⟩ | ⟨h, _⟩
  · exact h
  · exact absurd ⟨hv, hh⟩ h
theorem valid_one {fs : List Fl} {x : Lt} (h : hasF fs x = true) : validB [x] = true := validB_iff.2 ⟨by simp, fun y hy => by rw [List.mem_singleton] at hy; subst hy; exact (hasF_iff.1 h).1⟩
theorem one_has {fs : List Fl} {x : Lt} (h : hasF fs x = true) : ∀ y ∈ [x], hasF fs y = true := fun y hy => by rw [List.mem_singleton] at hy; subst hy; exact h
theorem set_has2 {fs : List Fl} (hg : GOk fs) {l : List Lt} (hl : ∀ y ∈ l, hasF fs y = true) : ∀ s ∈ setS l, hasF fs s = true := fun s hs => by
  have hc := (setS_facts (l := l) fun y hy => (hasF_iff.1 (hl y hy)).1).1
  refine (poss_units hg (hc.pos s hs) fun u hu => ?_).2
  obtain ⟨y, hy, hu⟩ := mem_U.1 (mem_setS.1 (mem_U.2 ⟨s, hs, hu⟩))
  exact hasF_units (hl y hy) u hu
set_option linter.unusedSimpArgs false in
set_option maxHeartbeats 16000000 in
set_option maxRecDepth 100000 in
theorem originSpreads_w (A0 : Option Addr) (n0 c0 : Nat) (l0 : List Int) (A1 : Option Addr) (n1 c1 : Nat) (l1 : List Int) (w : World) (h0 : Nums .i64 w A0 n0 c0 l0) (h1 : Nums .i64 w A1 n1 c1 l1) :
    Calls Try.prog 5 #[.slice A0 n0 c0, .slice A1 n1 c1] w (RetK w true) := by
  have HFL := Lib.hid (refFlows_c A0 n0 c0 l0 w h0)
  have H1 := Lib.hid h1
  clear h0 h1
  go_enter Try.func5, Try.ntmps5
  go_upto_region 2 with (go_at_call 9; refine HFL.out.mono ?_; rintro e w1 ⟨fs, A7, n7, c7, hGen, hn9, rfl, hF, hE1⟩)
  have HGE := Lib.hid hGen
  have HF := Lib.hid hF
  have HE1 := Lib.hid hE1
  have HN9 := Lib.hid hn9
  have hn7 := hF.n63
  have HNW := Lib.hid (newOk_c A7 n7 c7 fs w1 hF (by omega) hGen.made hGen.ok)
  have HLV := Lib.hid (fun W => lives15_c W)
  clear hGen hF hE1 hn9
  go_upto_region 5 with (go_at_call 10; refine HNW.out.mono ?_; rintro e w2 ⟨g, X, rfl, hG, hE2, hX2⟩)
  have HG := Lib.hid hG
  have HE2 := Lib.hid hE2
  have HLT := Lib.hid (show Calls Try.prog 12 #[.slice A7 n7 c7, .slice A1 n1 c1, .int .i64 0] w2 (RetSome w2) from refLot_c A7 n7 c7 fs A1 n1 c1 l1 0 w2 (HF.out.e hE2) HGE.out.rng (H1.out.e (HE1.out.trans hE2)) (by omega))
  have HL3 := Lib.hid (fun W (hE : E w2 W) => show Calls Try.prog 12 #[.slice A7 n7 c7, .slice A1 n1 c1, .int .i64 3] W (RetSome W) from refLot_c A7 n7 c7 fs A1 n1 c1 l1 3 W (HF.out.e (HE2.out.trans hE)) HGE.out.rng (H1.out.e ((HE1.out.trans HE2.out).trans hE)) (by omega))
  have HLA := Lib.hid (fun W A n c S (hE : E w2 W) (hA : LotsAt W A n c S) => gLater_c X g fs A n c S W (HG.out.e hE) hA (HGE.out.sm HN9.out))
  have HC := Lib.hid (HGE.out.c2304 HN9.out)
  clear hG hE2 hX2 HNW
  go_upto_region 6 with (go_at_call 12; refine HLT.out.mono ?_; rintro e w3 ⟨x, hwx, he, hE3⟩; unfold ltV at he; subst he)
  obtain ⟨w4, hw4⟩ : ∃ w4, w3.alloc (.cells #[.int .i64 x.1, .int .i64 x.2.1, .int .i64 x.2.2] 32) = w4 := ⟨_, rfl⟩
  have hE4 : E w3 w4 := by rw [← hw4]; exact (E.refl w3).alloc _
  have RA := Lib.hid (show LotsAt w4 (some ⟨w3.heap.size, 0, none⟩) 1 1 [x] by rw [← hw4]; exact lot_new hwx)
  have HBA := Lib.hid (show LtBox w4 w3.heap.size x by rw [← hw4]; exact LtBox.new w3 x)
  try rw [hw4]
  have HE24 := Lib.hid (hE3.trans hE4)
  have HOX := Lib.hid (fun W (hE : E w1 W) => refOf_c A7 n7 c7 fs x W (HF.out.e hE) hwx)
  clear hw4 hE3 hE4 hwx HLT
  go_upto_region 7 with (go_at_call 12; refine (HL3.out w4 HE24.out).mono ?_; rintro e w5 ⟨y, hwy, he, hE5⟩; unfold ltV at he; subst he)
  obtain ⟨w6, hw6⟩ : ∃ w6, w5.alloc (.cells #[.int .i64 y.1, .int .i64 y.2.1, .int .i64 y.2.2] 32) = w6 := ⟨_, rfl⟩
  have hE6 : E w5 w6 := by rw [← hw6]; exact (E.refl w5).alloc _
  have RB := Lib.hid (show LotsAt w6 (some ⟨w5.heap.size, 0, none⟩) 1 1 [y] by rw [← hw6]; exact lot_new hwy)
  have hBB : LtBox w6 w5.heap.size y := by rw [← hw6]; exact LtBox.new w5 y
  have HBB := Lib.hid hBB
  try rw [hw6]
  have HE26 := Lib.hid ((HE24.out.trans hE5).trans hE6)
  have RA6 := Lib.hid (RA.out.e (hE5.trans hE6))
  have HOY := Lib.hid (fun W (hE : E w1 W) => refOf_c A7 n7 c7 fs y W (HF.out.e hE) hwy)
  obtain ⟨d0, d1, d2⟩ := (HBA.out.e (hE5.trans hE6)).cells
  obtain ⟨e0, e1, e2⟩ := hBB.cells
  obtain ⟨bx, hbx⟩ : ∃ bv, hasF fs x = bv := ⟨_, rfl⟩
  obtain ⟨bY, hby⟩ : ∃ bv, hasF fs y = bv := ⟨_, rfl⟩
  have HBX := Lib.hid hbx
  have HBY := Lib.hid hby
  rw [hbx] at HOX
  rw [hby] at HOY
  unfold ltV at HOX HOY
  clear hw6 hE5 hE6 hwy hBB hbx hby HL3 HBA
  cases bx
  · go_wp2_with fail
    refine (HOX.out w6 (HE2.out.trans HE26.out)).mono ?_
    rintro e w7 ⟨rfl, hE7⟩
    go_wp2_with fail
    refine (HLV.out _).mono ?_
    rintro e w8 ⟨rfl, hE8⟩
    go_wp2_with fail
    go_ret
    exact ⟨rfl, (((HE1.out.trans HE2.out).trans HE26.out).trans hE7).trans hE8⟩
  cases bY
  · go_wp2_with fail
    refine (HOX.out w6 (HE2.out.trans HE26.out)).mono ?_
    rintro e w7 ⟨rfl, hE7⟩
    have e0' := (hE7.cell (p := ⟨w5.heap.size, 0, none⟩) HBB.out.lt).trans e0
    have e1' := (hE7.cell (p := ⟨w5.heap.size, 1, none⟩) HBB.out.lt).trans e1
    have e2' := (hE7.cell (p := ⟨w5.heap.size, 2, none⟩) HBB.out.lt).trans e2
    clear e0 e1 e2
    go_wp2_with fail
    refine (HOY.out w7 ((HE2.out.trans HE26.out).trans hE7)).mono ?_
    rintro e w7' ⟨rfl, hE7'⟩
    go_wp2_with fail
    refine (HLV.out _).mono ?_
    rintro e w8 ⟨rfl, hE8⟩
    go_wp2_with fail
    go_ret
    exact ⟨rfl, (((HE1.out.trans HE2.out).trans HE26.out).trans (hE7.trans hE7')).trans hE8⟩
  go_wp2_with fail
  refine (HOX.out w6 (HE2.out.trans HE26.out)).mono ?_
  rintro e w7 ⟨rfl, hE7⟩
  have e0' := (hE7.cell (p := ⟨w5.heap.size, 0, none⟩) HBB.out.lt).trans e0
  have e1' := (hE7.cell (p := ⟨w5.heap.size, 1, none⟩) HBB.out.lt).trans e1
  have e2' := (hE7.cell (p := ⟨w5.heap.size, 2, none⟩) HBB.out.lt).trans e2
  clear e0 e1 e2 d0 d1 d2
  go_wp2_with fail
  refine (HOY.out w7 ((HE2.out.trans HE26.out).trans hE7)).mono ?_
  rintro e w8 ⟨rfl, hE8⟩
  have HE68 := Lib.hid (hE7.trans hE8)
  have hvx := valid_one HBX.out
  have hvy := valid_one HBY.out
  obtain ⟨both, hboth⟩ : ∃ both, setS ([x] ++ [y]) = both := ⟨_, rfl⟩
  have HBO := Lib.hid hboth
  have hxy : ∀ z ∈ [x] ++ [y], hasF fs z = true := fun z hz => by
    rcases List.mem_append.1 hz with hz | hz
    · exact one_has HBX.out z hz
    · exact one_has HBY.out z hz
  have HUN := Lib.hid (show lunion [x] [y] = both by rw [lunion, hvx, hvy, ← hboth]; rfl)
  have hbh := set_has2 HGE.out.ok hxy
  obtain ⟨hbc, hbl, hbp⟩ := setS_facts (l := [x] ++ [y]) (fun z hz => (hasF_iff.1 (hxy z hz)).1)
  rw [hboth] at hbh hbc hbl hbp
  have HBH := Lib.hid hbh
  have HBP := Lib.hid hbp
  have HBV := Lib.hid (show validB both = true from validB_iff.2 ⟨by simp at hbl; omega, hbp⟩)
  have HU := Lib.hid (lUnion_c _ 1 1 [x] _ 1 1 [y] w8 (RA6.out.e HE68.out) (RB.out.e HE68.out))
  rw [HUN.out] at HU
  have HVX := Lib.hid hvx
  have HVY := Lib.hid hvy
  clear hvx hvy hboth hxy hbh hbc hbl hbp e0' e1' e2' hE7 hE8 HUN
  go_wp2_with fail
  refine HU.out.mono ?_
  rintro e w9 ⟨A10, n10, c10, rfl, hO10, hE9⟩
  have HE69 := Lib.hid (HE68.out.trans hE9)
  have R10 := Lib.hid hO10.reads
  have HL10 := Lib.hid (HLA.out w9 A10 n10 c10 both (HE26.out.trans HE69.out) hO10.reads)
  clear hO10 hE9 HU
  go_wp2_with fail
  refine HL10.out.mono ?_
  rintro e w10 ⟨all, hall, A11, n11, c11, rfl, hO11, hE10⟩
  have HALL := Lib.hid (later_valid HBV.out HBH.out hall)
  have HE6a := Lib.hid (HE69.out.trans hE10)
  have R11 := Lib.hid hO11.reads
  have R10a := Lib.hid (R10.out.e hE10)
  have HLa := Lib.hid (HLA.out w10 _ 1 1 [x] (HE26.out.trans HE6a.out) (RA6.out.e HE6a.out))
  clear hall hO11 hE10 HL10
  go_wp2_with fail
  refine HLa.out.mono ?_
  rintro e w11 ⟨la, hla, A12, n12, c12, rfl, hO12, hE11⟩
  have HLA1 := Lib.hid (later_valid HVX.out (one_has HBX.out) hla)
  have HE6b := Lib.hid (HE6a.out.trans hE11)
  have R12 := Lib.hid hO12.reads
  have R11b := Lib.hid (R11.out.e hE11)
  have R10b := Lib.hid (R10a.out.e hE11)
  have HLb := Lib.hid (HLA.out w11 _ 1 1 [y] (HE26.out.trans HE6b.out) (RB.out.e HE6b.out))
  clear hla hO12 hE11 HLa
  go_wp2_with fail
  refine HLb.out.mono ?_
  rintro e w12 ⟨lb, hlb, A13, n13, c13, rfl, hO13, hE12⟩
  have HLB1 := Lib.hid (later_valid HVY.out (one_has HBY.out) hlb)
  have HE6c := Lib.hid (HE6b.out.trans hE12)
  have HUN := Lib.hid (show lunion la lb = all by
    refine later_union HGE.out.ok (by have := HC.out; omega) (one_has HBX.out) (one_has HBY.out) HLA1.out HLB1.out ?_
    rw [HBO.out]; exact HALL.out)
  have HU2 := Lib.hid (lUnion_c _ _ _ la _ _ _ lb w12 (R12.out.e hE12) hO13.reads)
  rw [HUN.out] at HU2
  have R11c := Lib.hid (R11b.out.e hE12)
  have R10c := Lib.hid (R10b.out.e hE12)
  clear hlb hO13 hE12 HLb HUN
  go_wp2_with fail
  refine HU2.out.mono ?_
  rintro e w13 ⟨A14, n14, c14, rfl, hO14, hE13⟩
  have HE6d := Lib.hid (HE6c.out.trans hE13)
  have R11d := Lib.hid (R11c.out.e hE13)
  have R10d := Lib.hid (R10c.out.e hE13)
  have HS1 := Lib.hid (same_self A11 A14 n11 c11 n14 c14 all w13 (R11c.out.e hE13) hO14.reads)
  clear hO14 hE13 HU2
  go_wp2_with fail
  refine HS1.out.mono ?_
  rintro e w14 ⟨rfl, hE14⟩
  have HE6e := Lib.hid (HE6d.out.trans hE14)
  have R11e := Lib.hid (R11d.out.e hE14)
  have R10e := Lib.hid (R10d.out.e hE14)
  have HLc := Lib.hid (HLA.out w14 A11 n11 c11 all (HE26.out.trans HE6e.out) R11e.out)
  clear hE14 HS1
  go_wp2_with fail
  refine HLc.out.mono ?_
  rintro e w15 ⟨all2, hall2, A15, n15, c15, rfl, hO15, hE15⟩
  have hok := HALL.out.ok HGE.out.ok (by have := HC.out; omega) (lots_inG HBH.out)
  have heq : all2 = all := later_twice HALL.out (later_valid hok.1 hok.2 hall2)
  rw [heq] at hO15
  have HE6f := Lib.hid (HE6e.out.trans hE15)
  have R11f := Lib.hid (R11e.out.e hE15)
  have R10f := Lib.hid (R10e.out.e hE15)
  have HAP := Lib.hid (validB_iff.1 hok.1).2
  have HS2 := Lib.hid (same_self A15 A11 n15 c15 n11 c11 all w15 hO15.reads R11f.out)
  clear hall2 hok heq hO15 hE15 HLc
  go_upto_region 13 with (go_at_call 13; refine HS2.out.mono ?_; rintro e w16 ⟨rfl, hE16⟩)
  have HE2z := Lib.hid ((HE26.out.trans HE6f.out).trans hE16)
  have R11z := Lib.hid (R11f.out.e hE16)
  have R10z := Lib.hid (R10f.out.e hE16)
  have HFz := Lib.hid (HF.out.e (HE2.out.trans HE2z.out))
  have HH1 := Lib.hid (fun i k W (hE : E w16 W) => hasL_c i k A10 n10 c10 both W (R10z.out.e hE) HBP.out)
  have HH2 := Lib.hid (fun i k W (hE : E w16 W) => hasL_c i k A11 n11 c11 all W (R11z.out.e hE) HAP.out)
  clear hE16 HS2
  go_wp2_with fail
  go_loopw [12] (fun t12 wr => ∃ i : Nat, i ≤ n7 ∧ t12 = .int .i64 i ∧ E w16 wr) (fun t12 _ => n7 - (intOf t12).toNat)
  case atStart => exact ⟨0, Nat.zero_le _, rfl, E.refl _⟩
  case round =>
    obtain ⟨i, hi, rfl, hE⟩ := hrel
    by_cases hlt : i < n7
    · obtain ⟨b, o, f, s, t, hAe, hb, hfi, hwf, hcf, _⟩ := HFz.out.get hlt
      have hiI : (i : Int) < (n7 : Int) := by omega
      have HCF := Lib.hid (fun W (hE : E w16 W) => hcf.e hE hb)
      have HFI := Lib.hid hfi
      have HWF := Lib.hid hwf
      have HE16 := Lib.hid hE
      obtain ⟨wq, hwq⟩ : ∃ wq, wq = wr := ⟨_, rfl⟩
      subst hwq
      subst hAe
      have hgf := HGE.out.ok.ids.mem (List.mem_of_getElem? hfi)
      have HGF := Lib.hid hgf
      have hfr := HGE.out.rng f (List.mem_of_getElem? hfi)
      clear hfi hwf hcf hE hgf
      go_wp2_with fail
      go_loopw [13] (fun t13 wr => ∃ k : Nat, k ≤ 40 ∧ t13 = .int .i64 k ∧ E w16 wr) (fun t13 _ => 40 - (intOf t13).toNat)
      case atStart => exact ⟨0, Nat.zero_le _, rfl, HE16.out⟩
      case round =>
        obtain ⟨k, hk, rfl, hE⟩ := hrel
        have hcr := HCF.out wr hE
        unfold FlCells at hcr
        obtain ⟨c0', _, _, _, _, _, _, _, c8', _, _⟩ := hcr
        have hk0 : (0 : Int) ≤ (k : Int) := by omega
        by_cases hkn : (k : Int) < f.n
        · by_cases hk4 : k < 40
          · have hk4I : (k : Int) < 40 := by omega
            obtain ⟨_, o1, _, _, _, _⟩ := okF_iff.1 (HGE.out.ok.ok f (List.mem_of_getElem? HFI.out))
            have hhas : hasF fs (f.id, (k : Int), 1) = true := hasF_iff.2 ⟨possB_iff.2 (by simp only; omega), f, HGF.out, by simp only; omega⟩
            have HSU := Lib.hid (gSources_c X g fs (f.id, (k : Int), 1) wr (HG.out.e (HE2z.out.trans hE)) ⟨HWF.out.1, wf_of_i64 (by simp only; omega) (by simp only; omega), (by show (Lit.int .i64 1).wf = true; decide)⟩)
            rw [hhas, if_pos rfl, srcF_unit] at HSU
            have hsp := spread_one HALL.out f.id k
            have HCR := Lib.hid (fun W (hW : E wr W) => show W.cell? ⟨b, o + i * 11, none⟩ = some (.int .i64 f.id) from by have h := HCF.out W (hE.trans hW); unfold FlCells at h; exact h.1)
            obtain ⟨ba, hba⟩ : ∃ v, hasB all (f.id, (k : Int)) = v := ⟨_, rfl⟩
            obtain ⟨bb, hbb⟩ : ∃ v, hasB both (f.id, (k : Int)) = v := ⟨_, rfl⟩
            rw [hba, hbb] at hsp
            have HH1k := Lib.hid (HH1.out f.id k)
            have HH2k := Lib.hid (HH2.out f.id k)
            rw [hbb] at HH1k
            rw [hba] at HH2k
            unfold ltV at HSU
            simp only at HSU
            clear o1 hhas hba hbb
            cases hv : srcU fs (f.id, (k : Int)) with
            | none =>
              rw [hv] at HSU hsp
              simp only at HSU hsp
              clear hv
              go_upto_region 20 with (go_at_call 17; refine HSU.out.mono ?_; rintro e w17 ⟨A14, n14, c14, rfl, hO14, hE17⟩)
              have HE17 := Lib.hid hE17
              clear hE17
              obtain rfl : n14 = 0 := by rw [← hO14.1]; rfl
              have HS := Lib.hid (fun W (hW : E w17 W) => HCR.out W (HE17.out.trans hW))
              clear hO14 c0' c8'
              go_cut [15] (fun t15 wx => t15 = .bool ba ∧ E wr wx)
              case first =>
                cases bb
                · have HSP := Lib.hid (show ba = false by rw [hsp]; simp)
                  have hEa := (E.refl w17).drew
                  refine wp_region_held_drew (S := (fun W => W.cell? ⟨b, o + i * 11, none⟩ = some (.int .i64 f.id))) (by kernel_rfl) (HS.out _ hEa) (fun hHeld => ?_)
                  (((refine wpAnyH_take (i := 0) (v := ?_) rfl (by kernel_rfl) (by kernel_rfl) (by kernel_rfl) (fun _ _ _ h => h) (Or.inl ⟨by kernel_rfl, ?_⟩) (by assumption) ?_); rotate_left 1; (focus (intro w hSw; (try dsimp only at hSw); go_simp; (try with_reducible rfl))); (try simp only [Act.put, List.setIfInBounds_toArray, List.set_cons_zero, List.set_cons_succ])); ((refine wpAnyH_take (i := 1) (v := ?_) rfl (by kernel_rfl) (by kernel_rfl) (by kernel_rfl) (fun _ _ _ h => h) (Or.inl ⟨by kernel_rfl, ?_⟩) (by assumption) ?_); rotate_left 1; (focus (intro w hSw; (try dsimp only at hSw); go_simp; (try with_reducible rfl))); (try simp only [Act.put, List.setIfInBounds_toArray, List.set_cons_zero, List.set_cons_succ])); ((refine wpAnyH_take (i := 2) (v := ?_) rfl (by kernel_rfl) (by kernel_rfl) (by kernel_rfl) (fun _ _ _ h => h) (Or.inl ⟨by kernel_rfl, ?_⟩) (by assumption) ?_); rotate_left 1; (focus (intro w hSw; (try dsimp only at hSw); go_simp; (try with_reducible rfl))); (try simp only [Act.put, List.setIfInBounds_toArray, List.set_cons_zero, List.set_cons_succ])); ((refine wpAnyH_take (i := 3) (v := ?_) rfl (by kernel_rfl) (by kernel_rfl) (by kernel_rfl) (fun _ _ _ h => h) (Or.inl ⟨by kernel_rfl, ?_⟩) (by assumption) ?_); rotate_left 1; (focus (intro w hSw; (try dsimp only at hSw); go_simp; (try with_reducible rfl))); (try simp only [Act.put, List.setIfInBounds_toArray, List.set_cons_zero, List.set_cons_succ])); ((refine wpAnyH_take (i := 4) (v := ?_) rfl (by kernel_rfl) (by kernel_rfl) (by kernel_rfl) (fun _ _ _ h => h) (Or.inl ⟨by kernel_rfl, ?_⟩) (by assumption) ?_); rotate_left 1; (focus (intro w hSw; (try dsimp only at hSw); go_simp; (try with_reducible rfl))); (try simp only [Act.put, List.setIfInBounds_toArray, List.set_cons_zero, List.set_cons_succ])); ((refine wpAnyH_take (i := 5) (v := ?_) rfl (by kernel_rfl) (by kernel_rfl) (by kernel_rfl) (fun _ _ _ h => h) (Or.inl ⟨by kernel_rfl, ?_⟩) (by assumption) ?_); rotate_left 1; (focus (intro w hSw; (try dsimp only at hSw); go_simp; (try with_reducible rfl))); (try simp only [Act.put, List.setIfInBounds_toArray, List.set_cons_zero, List.set_cons_succ])); ((refine wpAnyH_take (i := 6) (v := ?_) rfl (by kernel_rfl) (by kernel_rfl) (by kernel_rfl) (fun _ _ _ h => h) (Or.inl ⟨by kernel_rfl, ?_⟩) (by assumption) ?_); rotate_left 1; (focus (intro w hSw; (try dsimp only at hSw); go_simp; (try with_reducible rfl))); (try simp only [Act.put, List.setIfInBounds_toArray, List.set_cons_zero, List.set_cons_succ])))
                  (((refine wpAnyH_ready (rs := [7]) (by kernel_rfl) (by simp) ?_); (refine AllReadyH.cons rfl (fun K hK => ?_) AllReadyH.nil); (rw [if_pos (by kernel_rfl)]); go_simp))
                  refine (HH1k.out _ ((hE.trans HE17.out).trans hEa)).mono ?_
                  rintro e wn ⟨rfl, hEn⟩
                  replace hEa := hEa.trans hEn
                  clear hEn
                  refine hK _ _ (HS.out _ hEa) (fun hh => ?_)
                  clear hK K hHeld
                  have hHeld := hh
                  clear hh
                  (try simp only [Act.put, List.setIfInBounds_toArray, List.set_cons_zero, List.set_cons_succ])
                  (((refine wpAnyH_take (i := 8) (v := ?_) rfl (by kernel_rfl) (by kernel_rfl) (by kernel_rfl) (fun _ _ _ h => h) (Or.inl ⟨by kernel_rfl, ?_⟩) (by assumption) ?_); rotate_left 1; (focus (intro w hSw; (try dsimp only at hSw); go_simp; (try with_reducible rfl))); (try simp only [Act.put, List.setIfInBounds_toArray, List.set_cons_zero, List.set_cons_succ])); ((refine wpAnyH_take (i := 9) (v := ?_) rfl (by kernel_rfl) (by kernel_rfl) (by kernel_rfl) (fun _ _ _ h => h) (Or.inl ⟨by kernel_rfl, ?_⟩) (by assumption) ?_); rotate_left 1; (focus (intro w hSw; (try dsimp only at hSw); go_simp; (try with_reducible rfl))); (try simp only [Act.put, List.setIfInBounds_toArray, List.set_cons_zero, List.set_cons_succ])); ((refine wpAnyH_take (i := 10) (v := ?_) rfl (by kernel_rfl) (by kernel_rfl) (by kernel_rfl) (fun _ _ _ h => h) (Or.inl ⟨by kernel_rfl, ?_⟩) (by assumption) ?_); rotate_left 1; (focus (intro w hSw; (try dsimp only at hSw); go_simp; (try with_reducible rfl))); (try simp only [Act.put, List.setIfInBounds_toArray, List.set_cons_zero, List.set_cons_succ])); ((refine wpAnyH_take (i := 11) (v := ?_) rfl (by kernel_rfl) (by kernel_rfl) (by kernel_rfl) (fun _ _ _ h => h) (Or.inl ⟨by kernel_rfl, ?_⟩) (by assumption) ?_); rotate_left 1; (focus (intro w hSw; (try dsimp only at hSw); go_simp; (try with_reducible rfl))); (try simp only [Act.put, List.setIfInBounds_toArray, List.set_cons_zero, List.set_cons_succ])); ((refine wpAnyH_take (i := 12) (v := ?_) rfl (by kernel_rfl) (by kernel_rfl) (by kernel_rfl) (fun _ _ _ h => h) (Or.inl ⟨by kernel_rfl, ?_⟩) (by assumption) ?_); rotate_left 1; (focus (intro w hSw; (try dsimp only at hSw); go_simp; (try with_reducible rfl))); (try simp only [Act.put, List.setIfInBounds_toArray, List.set_cons_zero, List.set_cons_succ])))
                  (((refine wpAnyH_take (i := 13) (v := undef) rfl (by kernel_rfl) (by kernel_rfl) (by kernel_rfl) (fun _ _ _ h => h) (Or.inr ⟨by kernel_rfl, rfl⟩) (by assumption) ?_); (try simp only [Act.put, List.setIfInBounds_toArray, List.set_cons_zero, List.set_cons_succ])); ((refine wpAnyH_take (i := 14) (v := undef) rfl (by kernel_rfl) (by kernel_rfl) (by kernel_rfl) (fun _ _ _ h => h) (Or.inr ⟨by kernel_rfl, rfl⟩) (by assumption) ?_); (try simp only [Act.put, List.setIfInBounds_toArray, List.set_cons_zero, List.set_cons_succ])); ((refine wpAnyH_take (i := 15) (v := undef) rfl (by kernel_rfl) (by kernel_rfl) (by kernel_rfl) (fun _ _ _ h => h) (Or.inr ⟨by kernel_rfl, rfl⟩) (by assumption) ?_); (try simp only [Act.put, List.setIfInBounds_toArray, List.set_cons_zero, List.set_cons_succ])); ((refine wpAnyH_take (i := 16) (v := undef) rfl (by kernel_rfl) (by kernel_rfl) (by kernel_rfl) (fun _ _ _ h => h) (Or.inr ⟨by kernel_rfl, rfl⟩) (by assumption) ?_); (try simp only [Act.put, List.setIfInBounds_toArray, List.set_cons_zero, List.set_cons_succ])); ((refine wpAnyH_take (i := 17) (v := undef) rfl (by kernel_rfl) (by kernel_rfl) (by kernel_rfl) (fun _ _ _ h => h) (Or.inr ⟨by kernel_rfl, rfl⟩) (by assumption) ?_); (try simp only [Act.put, List.setIfInBounds_toArray, List.set_cons_zero, List.set_cons_succ])); ((refine wpAnyH_take (i := 18) (v := undef) rfl (by kernel_rfl) (by kernel_rfl) (by kernel_rfl) (fun _ _ _ h => h) (Or.inr ⟨by kernel_rfl, rfl⟩) (by assumption) ?_); (try simp only [Act.put, List.setIfInBounds_toArray, List.set_cons_zero, List.set_cons_succ])); ((refine wpAnyH_take (i := 19) (v := undef) rfl (by kernel_rfl) (by kernel_rfl) (by kernel_rfl) (fun _ _ _ h => h) (Or.inr ⟨by kernel_rfl, rfl⟩) (by assumption) ?_); (try simp only [Act.put, List.setIfInBounds_toArray, List.set_cons_zero, List.set_cons_succ])); ((refine wpAnyH_take (i := 20) (v := undef) rfl (by kernel_rfl) (by kernel_rfl) (by kernel_rfl) (fun _ _ _ h => h) (Or.inr ⟨by kernel_rfl, rfl⟩) (by assumption) ?_); (try simp only [Act.put, List.setIfInBounds_toArray, List.set_cons_zero, List.set_cons_succ])); ((refine wpAnyH_take (i := 21) (v := undef) rfl (by kernel_rfl) (by kernel_rfl) (by kernel_rfl) (fun _ _ _ h => h) (Or.inr ⟨by kernel_rfl, rfl⟩) (by assumption) ?_); (try simp only [Act.put, List.setIfInBounds_toArray, List.set_cons_zero, List.set_cons_succ])); ((refine wpAnyH_take (i := 22) (v := undef) rfl (by kernel_rfl) (by kernel_rfl) (by kernel_rfl) (fun _ _ _ h => h) (Or.inr ⟨by kernel_rfl, rfl⟩) (by assumption) ?_); (try simp only [Act.put, List.setIfInBounds_toArray, List.set_cons_zero, List.set_cons_succ])))
                  (((refine wpAnyH_take (i := 23) (v := ?_) rfl (by kernel_rfl) (by kernel_rfl) (by kernel_rfl) (fun _ _ _ h => h) (Or.inl ⟨by kernel_rfl, ?_⟩) (by assumption) ?_); rotate_left 1; (focus (intro w hSw; (try dsimp only at hSw); go_simp; (try with_reducible rfl))); (try simp only [Act.put, List.setIfInBounds_toArray, List.set_cons_zero, List.set_cons_succ])); ((refine wpAnyH_take (i := 24) (v := ?_) rfl (by kernel_rfl) (by kernel_rfl) (by kernel_rfl) (fun _ _ _ h => h) (Or.inl ⟨by kernel_rfl, ?_⟩) (by assumption) ?_); rotate_left 1; (focus (intro w hSw; (try dsimp only at hSw); go_simp; (try with_reducible rfl))); (try simp only [Act.put, List.setIfInBounds_toArray, List.set_cons_zero, List.set_cons_succ])); ((refine wpAnyH_take (i := 25) (v := ?_) rfl (by kernel_rfl) (by kernel_rfl) (by kernel_rfl) (fun _ _ _ h => h) (Or.inl ⟨by kernel_rfl, ?_⟩) (by assumption) ?_); rotate_left 1; (focus (intro w hSw; (try dsimp only at hSw); go_simp; (try with_reducible rfl))); (try simp only [Act.put, List.setIfInBounds_toArray, List.set_cons_zero, List.set_cons_succ])))
                  refine wpAnyH_done (by kernel_rfl) ?_ _
                  go_simp
                  go_wp2_with fail
                  go_meet
                  exact ⟨by rw [HSP.out], HE17.out.trans hEa⟩
                · have HSP := Lib.hid (show ba = true by rw [hsp]; simp)
                  have hEa := (E.refl w17).drew
                  refine wp_region_held_drew (S := (fun W => W.cell? ⟨b, o + i * 11, none⟩ = some (.int .i64 f.id))) (by kernel_rfl) (HS.out _ hEa) (fun hHeld => ?_)
                  (((refine wpAnyH_take (i := 0) (v := ?_) rfl (by kernel_rfl) (by kernel_rfl) (by kernel_rfl) (fun _ _ _ h => h) (Or.inl ⟨by kernel_rfl, ?_⟩) (by assumption) ?_); rotate_left 1; (focus (intro w hSw; (try dsimp only at hSw); go_simp; (try with_reducible rfl))); (try simp only [Act.put, List.setIfInBounds_toArray, List.set_cons_zero, List.set_cons_succ])); ((refine wpAnyH_take (i := 1) (v := ?_) rfl (by kernel_rfl) (by kernel_rfl) (by kernel_rfl) (fun _ _ _ h => h) (Or.inl ⟨by kernel_rfl, ?_⟩) (by assumption) ?_); rotate_left 1; (focus (intro w hSw; (try dsimp only at hSw); go_simp; (try with_reducible rfl))); (try simp only [Act.put, List.setIfInBounds_toArray, List.set_cons_zero, List.set_cons_succ])); ((refine wpAnyH_take (i := 2) (v := ?_) rfl (by kernel_rfl) (by kernel_rfl) (by kernel_rfl) (fun _ _ _ h => h) (Or.inl ⟨by kernel_rfl, ?_⟩) (by assumption) ?_); rotate_left 1; (focus (intro w hSw; (try dsimp only at hSw); go_simp; (try with_reducible rfl))); (try simp only [Act.put, List.setIfInBounds_toArray, List.set_cons_zero, List.set_cons_succ])); ((refine wpAnyH_take (i := 3) (v := ?_) rfl (by kernel_rfl) (by kernel_rfl) (by kernel_rfl) (fun _ _ _ h => h) (Or.inl ⟨by kernel_rfl, ?_⟩) (by assumption) ?_); rotate_left 1; (focus (intro w hSw; (try dsimp only at hSw); go_simp; (try with_reducible rfl))); (try simp only [Act.put, List.setIfInBounds_toArray, List.set_cons_zero, List.set_cons_succ])); ((refine wpAnyH_take (i := 4) (v := ?_) rfl (by kernel_rfl) (by kernel_rfl) (by kernel_rfl) (fun _ _ _ h => h) (Or.inl ⟨by kernel_rfl, ?_⟩) (by assumption) ?_); rotate_left 1; (focus (intro w hSw; (try dsimp only at hSw); go_simp; (try with_reducible rfl))); (try simp only [Act.put, List.setIfInBounds_toArray, List.set_cons_zero, List.set_cons_succ])); ((refine wpAnyH_take (i := 5) (v := ?_) rfl (by kernel_rfl) (by kernel_rfl) (by kernel_rfl) (fun _ _ _ h => h) (Or.inl ⟨by kernel_rfl, ?_⟩) (by assumption) ?_); rotate_left 1; (focus (intro w hSw; (try dsimp only at hSw); go_simp; (try with_reducible rfl))); (try simp only [Act.put, List.setIfInBounds_toArray, List.set_cons_zero, List.set_cons_succ])); ((refine wpAnyH_take (i := 6) (v := ?_) rfl (by kernel_rfl) (by kernel_rfl) (by kernel_rfl) (fun _ _ _ h => h) (Or.inl ⟨by kernel_rfl, ?_⟩) (by assumption) ?_); rotate_left 1; (focus (intro w hSw; (try dsimp only at hSw); go_simp; (try with_reducible rfl))); (try simp only [Act.put, List.setIfInBounds_toArray, List.set_cons_zero, List.set_cons_succ])))
                  (((refine wpAnyH_ready (rs := [7]) (by kernel_rfl) (by simp) ?_); (refine AllReadyH.cons rfl (fun K hK => ?_) AllReadyH.nil); (rw [if_pos (by kernel_rfl)]); go_simp))
                  refine (HH1k.out _ ((hE.trans HE17.out).trans hEa)).mono ?_
                  rintro e wn ⟨rfl, hEn⟩
                  replace hEa := hEa.trans hEn
                  clear hEn
                  refine hK _ _ (HS.out _ hEa) (fun hh => ?_)
                  clear hK K hHeld
                  have hHeld := hh
                  clear hh
                  (try simp only [Act.put, List.setIfInBounds_toArray, List.set_cons_zero, List.set_cons_succ])
                  (((refine wpAnyH_take (i := 8) (v := ?_) rfl (by kernel_rfl) (by kernel_rfl) (by kernel_rfl) (fun _ _ _ h => h) (Or.inl ⟨by kernel_rfl, ?_⟩) (by assumption) ?_); rotate_left 1; (focus (intro w hSw; (try dsimp only at hSw); go_simp; (try with_reducible rfl))); (try simp only [Act.put, List.setIfInBounds_toArray, List.set_cons_zero, List.set_cons_succ])))
                  (((refine wpAnyH_take (i := 9) (v := undef) rfl (by kernel_rfl) (by kernel_rfl) (by kernel_rfl) (fun _ _ _ h => h) (Or.inr ⟨by kernel_rfl, rfl⟩) (by assumption) ?_); (try simp only [Act.put, List.setIfInBounds_toArray, List.set_cons_zero, List.set_cons_succ])); ((refine wpAnyH_take (i := 10) (v := undef) rfl (by kernel_rfl) (by kernel_rfl) (by kernel_rfl) (fun _ _ _ h => h) (Or.inr ⟨by kernel_rfl, rfl⟩) (by assumption) ?_); (try simp only [Act.put, List.setIfInBounds_toArray, List.set_cons_zero, List.set_cons_succ])); ((refine wpAnyH_take (i := 11) (v := undef) rfl (by kernel_rfl) (by kernel_rfl) (by kernel_rfl) (fun _ _ _ h => h) (Or.inr ⟨by kernel_rfl, rfl⟩) (by assumption) ?_); (try simp only [Act.put, List.setIfInBounds_toArray, List.set_cons_zero, List.set_cons_succ])); ((refine wpAnyH_take (i := 12) (v := undef) rfl (by kernel_rfl) (by kernel_rfl) (by kernel_rfl) (fun _ _ _ h => h) (Or.inr ⟨by kernel_rfl, rfl⟩) (by assumption) ?_); (try simp only [Act.put, List.setIfInBounds_toArray, List.set_cons_zero, List.set_cons_succ])); ((refine wpAnyH_take (i := 13) (v := undef) rfl (by kernel_rfl) (by kernel_rfl) (by kernel_rfl) (fun _ _ _ h => h) (Or.inr ⟨by kernel_rfl, rfl⟩) (by assumption) ?_); (try simp only [Act.put, List.setIfInBounds_toArray, List.set_cons_zero, List.set_cons_succ])); ((refine wpAnyH_take (i := 14) (v := undef) rfl (by kernel_rfl) (by kernel_rfl) (by kernel_rfl) (fun _ _ _ h => h) (Or.inr ⟨by kernel_rfl, rfl⟩) (by assumption) ?_); (try simp only [Act.put, List.setIfInBounds_toArray, List.set_cons_zero, List.set_cons_succ])); ((refine wpAnyH_take (i := 15) (v := undef) rfl (by kernel_rfl) (by kernel_rfl) (by kernel_rfl) (fun _ _ _ h => h) (Or.inr ⟨by kernel_rfl, rfl⟩) (by assumption) ?_); (try simp only [Act.put, List.setIfInBounds_toArray, List.set_cons_zero, List.set_cons_succ])); ((refine wpAnyH_take (i := 16) (v := undef) rfl (by kernel_rfl) (by kernel_rfl) (by kernel_rfl) (fun _ _ _ h => h) (Or.inr ⟨by kernel_rfl, rfl⟩) (by assumption) ?_); (try simp only [Act.put, List.setIfInBounds_toArray, List.set_cons_zero, List.set_cons_succ])); ((refine wpAnyH_take (i := 17) (v := undef) rfl (by kernel_rfl) (by kernel_rfl) (by kernel_rfl) (fun _ _ _ h => h) (Or.inr ⟨by kernel_rfl, rfl⟩) (by assumption) ?_); (try simp only [Act.put, List.setIfInBounds_toArray, List.set_cons_zero, List.set_cons_succ])); ((refine wpAnyH_take (i := 18) (v := undef) rfl (by kernel_rfl) (by kernel_rfl) (by kernel_rfl) (fun _ _ _ h => h) (Or.inr ⟨by kernel_rfl, rfl⟩) (by assumption) ?_); (try simp only [Act.put, List.setIfInBounds_toArray, List.set_cons_zero, List.set_cons_succ])); ((refine wpAnyH_take (i := 19) (v := undef) rfl (by kernel_rfl) (by kernel_rfl) (by kernel_rfl) (fun _ _ _ h => h) (Or.inr ⟨by kernel_rfl, rfl⟩) (by assumption) ?_); (try simp only [Act.put, List.setIfInBounds_toArray, List.set_cons_zero, List.set_cons_succ])); ((refine wpAnyH_take (i := 20) (v := undef) rfl (by kernel_rfl) (by kernel_rfl) (by kernel_rfl) (fun _ _ _ h => h) (Or.inr ⟨by kernel_rfl, rfl⟩) (by assumption) ?_); (try simp only [Act.put, List.setIfInBounds_toArray, List.set_cons_zero, List.set_cons_succ])); ((refine wpAnyH_take (i := 21) (v := undef) rfl (by kernel_rfl) (by kernel_rfl) (by kernel_rfl) (fun _ _ _ h => h) (Or.inr ⟨by kernel_rfl, rfl⟩) (by assumption) ?_); (try simp only [Act.put, List.setIfInBounds_toArray, List.set_cons_zero, List.set_cons_succ])); ((refine wpAnyH_take (i := 22) (v := undef) rfl (by kernel_rfl) (by kernel_rfl) (by kernel_rfl) (fun _ _ _ h => h) (Or.inr ⟨by kernel_rfl, rfl⟩) (by assumption) ?_); (try simp only [Act.put, List.setIfInBounds_toArray, List.set_cons_zero, List.set_cons_succ])); ((refine wpAnyH_take (i := 23) (v := undef) rfl (by kernel_rfl) (by kernel_rfl) (by kernel_rfl) (fun _ _ _ h => h) (Or.inr ⟨by kernel_rfl, rfl⟩) (by assumption) ?_); (try simp only [Act.put, List.setIfInBounds_toArray, List.set_cons_zero, List.set_cons_succ])))
                  (((refine wpAnyH_take (i := 24) (v := ?_) rfl (by kernel_rfl) (by kernel_rfl) (by kernel_rfl) (fun _ _ _ h => h) (Or.inl ⟨by kernel_rfl, ?_⟩) (by assumption) ?_); rotate_left 1; (focus (intro w hSw; (try dsimp only at hSw); go_simp; (try with_reducible rfl))); (try simp only [Act.put, List.setIfInBounds_toArray, List.set_cons_zero, List.set_cons_succ])); ((refine wpAnyH_take (i := 25) (v := ?_) rfl (by kernel_rfl) (by kernel_rfl) (by kernel_rfl) (fun _ _ _ h => h) (Or.inl ⟨by kernel_rfl, ?_⟩) (by assumption) ?_); rotate_left 1; (focus (intro w hSw; (try dsimp only at hSw); go_simp; (try with_reducible rfl))); (try simp only [Act.put, List.setIfInBounds_toArray, List.set_cons_zero, List.set_cons_succ])))
                  refine wpAnyH_done (by kernel_rfl) ?_ _
                  go_simp
                  go_wp2_with fail
                  go_meet
                  exact ⟨by rw [HSP.out], HE17.out.trans hEa⟩
              case rest =>
                obtain ⟨rfl, hEc⟩ := hcut
                obtain ⟨wc2, hwc2, _⟩ : ∃ W, W = _ ∧ E wr W := ⟨_, rfl, hEc⟩
                subst hwc2
                clear hsp
                have c0 := HCR.out _ hEc
                have HEc := Lib.hid (hE.trans hEc)
                clear hEc
                go_wp2_with fail
                refine (HH2k.out _ HEc.out).mono ?_
                rintro e w18 ⟨rfl, hE18⟩
                clear c0
                go_wp2_with fail
                go_roundw
                case rel => exact ⟨k + 1, by omega, by go_num, HEc.out.trans hE18⟩
                case measure => simp [intOf]; omega
            | some v =>
              rw [hv] at HSU hsp
              simp only at HSU hsp
              clear hv
              go_upto_region 20 with (go_at_call 17; refine HSU.out.mono ?_; rintro e w17 ⟨A14, n14, c14, rfl, hO14, hE17⟩)
              have HE17 := Lib.hid hE17
              clear hE17
              obtain rfl : n14 = 1 := by rw [← hO14.1]; rfl
              obtain ⟨b14, o14, z, hA14, hb14, hz, hwz, _⟩ := hO14.reads.get (i := 0) (by omega)
              have hz2 : z = (v.1, v.2, 1) := by simpa using hz.symm
              subst hz2
              subst hA14
              have HS := Lib.hid (fun W (hW : E w17 W) => show W.cell? ⟨b, o + i * 11, none⟩ = some (.int .i64 f.id) ∧ W.cell? ⟨b14, o14, none⟩ = some (.int .i64 v.1) ∧ W.cell? ⟨b14, o14 + 1, none⟩ = some (.int .i64 v.2) from ⟨HCR.out W (HE17.out.trans hW), by
                obtain ⟨b2, o2, z2, h1, _, h2, _, g0, g1, _⟩ := (hO14.reads.e hW).get (i := 0) (by omega)
                injection h1 with h1; injection h1 with h1 h1'; subst h1 h1'
                have h3 : z2 = (v.1, v.2, 1) := by simpa using h2.symm
                subst h3
                simp only [Nat.zero_mul, Nat.add_zero] at g0 g1
                exact ⟨g0, g1⟩⟩)
              obtain ⟨bv, hbv⟩ : ∃ w, hasB all v = w := ⟨_, rfl⟩
              have HHv := Lib.hid (HH2.out v.1 v.2)
              rw [show hasB all (v.1, v.2) = bv from hbv] at HHv
              rw [hbv] at hsp
              clear hbv hz hwz
              clear hO14 c0' c8'
              go_cut [15] (fun t15 wx => t15 = .bool ba ∧ E wr wx)
              case first =>
                cases bb
                · have HSP := Lib.hid (show ba = bv by rw [hsp]; simp)
                  have hEa := (E.refl w17).drew
                  refine wp_region_held_drew (S := (fun W => W.cell? ⟨b, o + i * 11, none⟩ = some (.int .i64 f.id) ∧ W.cell? ⟨b14, o14, none⟩ = some (.int .i64 v.1) ∧ W.cell? ⟨b14, o14 + 1, none⟩ = some (.int .i64 v.2))) (by kernel_rfl) (HS.out _ hEa) (fun hHeld => ?_)
                  (((refine wpAnyH_take (i := 0) (v := ?_) rfl (by kernel_rfl) (by kernel_rfl) (by kernel_rfl) (fun _ _ _ h => h) (Or.inl ⟨by kernel_rfl, ?_⟩) (by assumption) ?_); rotate_left 1; (focus (intro w hSw; (try dsimp only at hSw); go_simp; (try with_reducible rfl))); (try simp only [Act.put, List.setIfInBounds_toArray, List.set_cons_zero, List.set_cons_succ])); ((refine wpAnyH_take (i := 1) (v := ?_) rfl (by kernel_rfl) (by kernel_rfl) (by kernel_rfl) (fun _ _ _ h => h) (Or.inl ⟨by kernel_rfl, ?_⟩) (by assumption) ?_); rotate_left 1; (focus (intro w hSw; (try dsimp only at hSw); go_simp; (try with_reducible rfl))); (try simp only [Act.put, List.setIfInBounds_toArray, List.set_cons_zero, List.set_cons_succ])); ((refine wpAnyH_take (i := 2) (v := ?_) rfl (by kernel_rfl) (by kernel_rfl) (by kernel_rfl) (fun _ _ _ h => h) (Or.inl ⟨by kernel_rfl, ?_⟩) (by assumption) ?_); rotate_left 1; (focus (intro w hSw; (try dsimp only at hSw); go_simp; (try with_reducible rfl))); (try simp only [Act.put, List.setIfInBounds_toArray, List.set_cons_zero, List.set_cons_succ])); ((refine wpAnyH_take (i := 3) (v := ?_) rfl (by kernel_rfl) (by kernel_rfl) (by kernel_rfl) (fun _ _ _ h => h) (Or.inl ⟨by kernel_rfl, ?_⟩) (by assumption) ?_); rotate_left 1; (focus (intro w hSw; (try dsimp only at hSw); go_simp; (try with_reducible rfl))); (try simp only [Act.put, List.setIfInBounds_toArray, List.set_cons_zero, List.set_cons_succ])); ((refine wpAnyH_take (i := 4) (v := ?_) rfl (by kernel_rfl) (by kernel_rfl) (by kernel_rfl) (fun _ _ _ h => h) (Or.inl ⟨by kernel_rfl, ?_⟩) (by assumption) ?_); rotate_left 1; (focus (intro w hSw; (try dsimp only at hSw); go_simp; (try with_reducible rfl))); (try simp only [Act.put, List.setIfInBounds_toArray, List.set_cons_zero, List.set_cons_succ])); ((refine wpAnyH_take (i := 5) (v := ?_) rfl (by kernel_rfl) (by kernel_rfl) (by kernel_rfl) (fun _ _ _ h => h) (Or.inl ⟨by kernel_rfl, ?_⟩) (by assumption) ?_); rotate_left 1; (focus (intro w hSw; (try dsimp only at hSw); go_simp; (try with_reducible rfl))); (try simp only [Act.put, List.setIfInBounds_toArray, List.set_cons_zero, List.set_cons_succ])); ((refine wpAnyH_take (i := 6) (v := ?_) rfl (by kernel_rfl) (by kernel_rfl) (by kernel_rfl) (fun _ _ _ h => h) (Or.inl ⟨by kernel_rfl, ?_⟩) (by assumption) ?_); rotate_left 1; (focus (intro w hSw; (try dsimp only at hSw); go_simp; (try with_reducible rfl))); (try simp only [Act.put, List.setIfInBounds_toArray, List.set_cons_zero, List.set_cons_succ])))
                  (((refine wpAnyH_ready (rs := [7]) (by kernel_rfl) (by simp) ?_); (refine AllReadyH.cons rfl (fun K hK => ?_) AllReadyH.nil); (rw [if_pos (by kernel_rfl)]); go_simp))
                  refine (HH1k.out _ ((hE.trans HE17.out).trans hEa)).mono ?_
                  rintro e wn ⟨rfl, hEn⟩
                  replace hEa := hEa.trans hEn
                  clear hEn
                  refine hK _ _ (HS.out _ hEa) (fun hh => ?_)
                  clear hK K hHeld
                  have hHeld := hh
                  clear hh
                  (try simp only [Act.put, List.setIfInBounds_toArray, List.set_cons_zero, List.set_cons_succ])
                  (((refine wpAnyH_take (i := 8) (v := ?_) rfl (by kernel_rfl) (by kernel_rfl) (by kernel_rfl) (fun _ _ _ h => h) (Or.inl ⟨by kernel_rfl, ?_⟩) (by assumption) ?_); rotate_left 1; (focus (intro w hSw; (try dsimp only at hSw); go_simp; (try with_reducible rfl))); (try simp only [Act.put, List.setIfInBounds_toArray, List.set_cons_zero, List.set_cons_succ])); ((refine wpAnyH_take (i := 9) (v := ?_) rfl (by kernel_rfl) (by kernel_rfl) (by kernel_rfl) (fun _ _ _ h => h) (Or.inl ⟨by kernel_rfl, ?_⟩) (by assumption) ?_); rotate_left 1; (focus (intro w hSw; (try dsimp only at hSw); go_simp; (try with_reducible rfl))); (try simp only [Act.put, List.setIfInBounds_toArray, List.set_cons_zero, List.set_cons_succ])); ((refine wpAnyH_take (i := 10) (v := ?_) rfl (by kernel_rfl) (by kernel_rfl) (by kernel_rfl) (fun _ _ _ h => h) (Or.inl ⟨by kernel_rfl, ?_⟩) (by assumption) ?_); rotate_left 1; (focus (intro w hSw; (try dsimp only at hSw); go_simp; (try with_reducible rfl))); (try simp only [Act.put, List.setIfInBounds_toArray, List.set_cons_zero, List.set_cons_succ])); ((refine wpAnyH_take (i := 11) (v := ?_) rfl (by kernel_rfl) (by kernel_rfl) (by kernel_rfl) (fun _ _ _ h => h) (Or.inl ⟨by kernel_rfl, ?_⟩) (by assumption) ?_); rotate_left 1; (focus (intro w hSw; (try dsimp only at hSw); go_simp; (try with_reducible rfl))); (try simp only [Act.put, List.setIfInBounds_toArray, List.set_cons_zero, List.set_cons_succ])); ((refine wpAnyH_take (i := 12) (v := ?_) rfl (by kernel_rfl) (by kernel_rfl) (by kernel_rfl) (fun _ _ _ h => h) (Or.inl ⟨by kernel_rfl, ?_⟩) (by assumption) ?_); rotate_left 1; (focus (intro w hSw; (try dsimp only at hSw); go_simp; (try with_reducible rfl))); (try simp only [Act.put, List.setIfInBounds_toArray, List.set_cons_zero, List.set_cons_succ])); ((refine wpAnyH_take (i := 13) (v := ?_) rfl (by kernel_rfl) (by kernel_rfl) (by kernel_rfl) (fun _ _ _ h => h) (Or.inl ⟨by kernel_rfl, ?_⟩) (by assumption) ?_); rotate_left 1; (focus (intro w hSw; (try dsimp only at hSw); go_simp; (try with_reducible rfl))); (try simp only [Act.put, List.setIfInBounds_toArray, List.set_cons_zero, List.set_cons_succ])); ((refine wpAnyH_take (i := 14) (v := ?_) rfl (by kernel_rfl) (by kernel_rfl) (by kernel_rfl) (fun _ _ _ h => h) (Or.inl ⟨by kernel_rfl, ?_⟩) (by assumption) ?_); rotate_left 1; (focus (intro w hSw; (try dsimp only at hSw); go_simp; (try with_reducible rfl))); (try simp only [Act.put, List.setIfInBounds_toArray, List.set_cons_zero, List.set_cons_succ])); ((refine wpAnyH_take (i := 15) (v := ?_) rfl (by kernel_rfl) (by kernel_rfl) (by kernel_rfl) (fun _ _ _ h => h) (Or.inl ⟨by kernel_rfl, ?_⟩) (by assumption) ?_); rotate_left 1; (focus (intro w hSw; (try dsimp only at hSw); go_simp; (try with_reducible rfl))); (try simp only [Act.put, List.setIfInBounds_toArray, List.set_cons_zero, List.set_cons_succ])); ((refine wpAnyH_take (i := 16) (v := ?_) rfl (by kernel_rfl) (by kernel_rfl) (by kernel_rfl) (fun _ _ _ h => h) (Or.inl ⟨by kernel_rfl, ?_⟩) (by assumption) ?_); rotate_left 1; (focus (intro w hSw; (try dsimp only at hSw); go_simp; (try with_reducible rfl))); (try simp only [Act.put, List.setIfInBounds_toArray, List.set_cons_zero, List.set_cons_succ])); ((refine wpAnyH_take (i := 17) (v := ?_) rfl (by kernel_rfl) (by kernel_rfl) (by kernel_rfl) (fun _ _ _ h => h) (Or.inl ⟨by kernel_rfl, ?_⟩) (by assumption) ?_); rotate_left 1; (focus (intro w hSw; (try dsimp only at hSw); go_simp; (try with_reducible rfl))); (try simp only [Act.put, List.setIfInBounds_toArray, List.set_cons_zero, List.set_cons_succ])); ((refine wpAnyH_take (i := 18) (v := ?_) rfl (by kernel_rfl) (by kernel_rfl) (by kernel_rfl) (fun _ _ _ h => h) (Or.inl ⟨by kernel_rfl, ?_⟩) (by assumption) ?_); rotate_left 1; (focus (intro w hSw; (try dsimp only at hSw); go_simp; (try with_reducible rfl))); (try simp only [Act.put, List.setIfInBounds_toArray, List.set_cons_zero, List.set_cons_succ])); ((refine wpAnyH_take (i := 19) (v := ?_) rfl (by kernel_rfl) (by kernel_rfl) (by kernel_rfl) (fun _ _ _ h => h) (Or.inl ⟨by kernel_rfl, ?_⟩) (by assumption) ?_); rotate_left 1; (focus (intro w hSw; (try dsimp only at hSw); go_simp; (try with_reducible rfl))); (try simp only [Act.put, List.setIfInBounds_toArray, List.set_cons_zero, List.set_cons_succ])); ((refine wpAnyH_take (i := 20) (v := ?_) rfl (by kernel_rfl) (by kernel_rfl) (by kernel_rfl) (fun _ _ _ h => h) (Or.inl ⟨by kernel_rfl, ?_⟩) (by assumption) ?_); rotate_left 1; (focus (intro w hSw; (try dsimp only at hSw); go_simp; (try with_reducible rfl))); (try simp only [Act.put, List.setIfInBounds_toArray, List.set_cons_zero, List.set_cons_succ])); ((refine wpAnyH_take (i := 21) (v := ?_) rfl (by kernel_rfl) (by kernel_rfl) (by kernel_rfl) (fun _ _ _ h => h) (Or.inl ⟨by kernel_rfl, ?_⟩) (by assumption) ?_); rotate_left 1; (focus (intro w hSw; (try dsimp only at hSw); go_simp; (try with_reducible rfl))); (try simp only [Act.put, List.setIfInBounds_toArray, List.set_cons_zero, List.set_cons_succ])))
                  (((refine wpAnyH_ready (rs := [22]) (by kernel_rfl) (by simp) ?_); (refine AllReadyH.cons rfl (fun K hK => ?_) AllReadyH.nil); (rw [if_pos (by kernel_rfl)]); go_simp))
                  refine (HHv.out _ ((hE.trans HE17.out).trans hEa)).mono ?_
                  rintro e wn ⟨rfl, hEn⟩
                  replace hEa := hEa.trans hEn
                  clear hEn
                  refine hK _ _ (HS.out _ hEa) (fun hh => ?_)
                  clear hK K hHeld
                  have hHeld := hh
                  clear hh
                  (try simp only [Act.put, List.setIfInBounds_toArray, List.set_cons_zero, List.set_cons_succ])
                  (((refine wpAnyH_take (i := 23) (v := ?_) rfl (by kernel_rfl) (by kernel_rfl) (by kernel_rfl) (fun _ _ _ h => h) (Or.inl ⟨by kernel_rfl, ?_⟩) (by assumption) ?_); rotate_left 1; (focus (intro w hSw; (try dsimp only at hSw); go_simp; (try with_reducible rfl))); (try simp only [Act.put, List.setIfInBounds_toArray, List.set_cons_zero, List.set_cons_succ])); ((refine wpAnyH_take (i := 24) (v := ?_) rfl (by kernel_rfl) (by kernel_rfl) (by kernel_rfl) (fun _ _ _ h => h) (Or.inl ⟨by kernel_rfl, ?_⟩) (by assumption) ?_); rotate_left 1; (focus (intro w hSw; (try dsimp only at hSw); go_simp; (try with_reducible rfl))); (try simp only [Act.put, List.setIfInBounds_toArray, List.set_cons_zero, List.set_cons_succ])); ((refine wpAnyH_take (i := 25) (v := ?_) rfl (by kernel_rfl) (by kernel_rfl) (by kernel_rfl) (fun _ _ _ h => h) (Or.inl ⟨by kernel_rfl, ?_⟩) (by assumption) ?_); rotate_left 1; (focus (intro w hSw; (try dsimp only at hSw); go_simp; (try with_reducible rfl))); (try simp only [Act.put, List.setIfInBounds_toArray, List.set_cons_zero, List.set_cons_succ])))
                  refine wpAnyH_done (by kernel_rfl) ?_ _
                  go_simp
                  go_wp2_with fail
                  go_meet
                  exact ⟨by rw [HSP.out], HE17.out.trans hEa⟩
                · have HSP := Lib.hid (show ba = true by rw [hsp]; simp)
                  have hEa := (E.refl w17).drew
                  refine wp_region_held_drew (S := (fun W => W.cell? ⟨b, o + i * 11, none⟩ = some (.int .i64 f.id) ∧ W.cell? ⟨b14, o14, none⟩ = some (.int .i64 v.1) ∧ W.cell? ⟨b14, o14 + 1, none⟩ = some (.int .i64 v.2))) (by kernel_rfl) (HS.out _ hEa) (fun hHeld => ?_)
                  (((refine wpAnyH_take (i := 0) (v := ?_) rfl (by kernel_rfl) (by kernel_rfl) (by kernel_rfl) (fun _ _ _ h => h) (Or.inl ⟨by kernel_rfl, ?_⟩) (by assumption) ?_); rotate_left 1; (focus (intro w hSw; (try dsimp only at hSw); go_simp; (try with_reducible rfl))); (try simp only [Act.put, List.setIfInBounds_toArray, List.set_cons_zero, List.set_cons_succ])); ((refine wpAnyH_take (i := 1) (v := ?_) rfl (by kernel_rfl) (by kernel_rfl) (by kernel_rfl) (fun _ _ _ h => h) (Or.inl ⟨by kernel_rfl, ?_⟩) (by assumption) ?_); rotate_left 1; (focus (intro w hSw; (try dsimp only at hSw); go_simp; (try with_reducible rfl))); (try simp only [Act.put, List.setIfInBounds_toArray, List.set_cons_zero, List.set_cons_succ])); ((refine wpAnyH_take (i := 2) (v := ?_) rfl (by kernel_rfl) (by kernel_rfl) (by kernel_rfl) (fun _ _ _ h => h) (Or.inl ⟨by kernel_rfl, ?_⟩) (by assumption) ?_); rotate_left 1; (focus (intro w hSw; (try dsimp only at hSw); go_simp; (try with_reducible rfl))); (try simp only [Act.put, List.setIfInBounds_toArray, List.set_cons_zero, List.set_cons_succ])); ((refine wpAnyH_take (i := 3) (v := ?_) rfl (by kernel_rfl) (by kernel_rfl) (by kernel_rfl) (fun _ _ _ h => h) (Or.inl ⟨by kernel_rfl, ?_⟩) (by assumption) ?_); rotate_left 1; (focus (intro w hSw; (try dsimp only at hSw); go_simp; (try with_reducible rfl))); (try simp only [Act.put, List.setIfInBounds_toArray, List.set_cons_zero, List.set_cons_succ])); ((refine wpAnyH_take (i := 4) (v := ?_) rfl (by kernel_rfl) (by kernel_rfl) (by kernel_rfl) (fun _ _ _ h => h) (Or.inl ⟨by kernel_rfl, ?_⟩) (by assumption) ?_); rotate_left 1; (focus (intro w hSw; (try dsimp only at hSw); go_simp; (try with_reducible rfl))); (try simp only [Act.put, List.setIfInBounds_toArray, List.set_cons_zero, List.set_cons_succ])); ((refine wpAnyH_take (i := 5) (v := ?_) rfl (by kernel_rfl) (by kernel_rfl) (by kernel_rfl) (fun _ _ _ h => h) (Or.inl ⟨by kernel_rfl, ?_⟩) (by assumption) ?_); rotate_left 1; (focus (intro w hSw; (try dsimp only at hSw); go_simp; (try with_reducible rfl))); (try simp only [Act.put, List.setIfInBounds_toArray, List.set_cons_zero, List.set_cons_succ])); ((refine wpAnyH_take (i := 6) (v := ?_) rfl (by kernel_rfl) (by kernel_rfl) (by kernel_rfl) (fun _ _ _ h => h) (Or.inl ⟨by kernel_rfl, ?_⟩) (by assumption) ?_); rotate_left 1; (focus (intro w hSw; (try dsimp only at hSw); go_simp; (try with_reducible rfl))); (try simp only [Act.put, List.setIfInBounds_toArray, List.set_cons_zero, List.set_cons_succ])))
                  (((refine wpAnyH_ready (rs := [7]) (by kernel_rfl) (by simp) ?_); (refine AllReadyH.cons rfl (fun K hK => ?_) AllReadyH.nil); (rw [if_pos (by kernel_rfl)]); go_simp))
                  refine (HH1k.out _ ((hE.trans HE17.out).trans hEa)).mono ?_
                  rintro e wn ⟨rfl, hEn⟩
                  replace hEa := hEa.trans hEn
                  clear hEn
                  refine hK _ _ (HS.out _ hEa) (fun hh => ?_)
                  clear hK K hHeld
                  have hHeld := hh
                  clear hh
                  (try simp only [Act.put, List.setIfInBounds_toArray, List.set_cons_zero, List.set_cons_succ])
                  (((refine wpAnyH_take (i := 8) (v := ?_) rfl (by kernel_rfl) (by kernel_rfl) (by kernel_rfl) (fun _ _ _ h => h) (Or.inl ⟨by kernel_rfl, ?_⟩) (by assumption) ?_); rotate_left 1; (focus (intro w hSw; (try dsimp only at hSw); go_simp; (try with_reducible rfl))); (try simp only [Act.put, List.setIfInBounds_toArray, List.set_cons_zero, List.set_cons_succ])))
                  (((refine wpAnyH_take (i := 9) (v := undef) rfl (by kernel_rfl) (by kernel_rfl) (by kernel_rfl) (fun _ _ _ h => h) (Or.inr ⟨by kernel_rfl, rfl⟩) (by assumption) ?_); (try simp only [Act.put, List.setIfInBounds_toArray, List.set_cons_zero, List.set_cons_succ])); ((refine wpAnyH_take (i := 10) (v := undef) rfl (by kernel_rfl) (by kernel_rfl) (by kernel_rfl) (fun _ _ _ h => h) (Or.inr ⟨by kernel_rfl, rfl⟩) (by assumption) ?_); (try simp only [Act.put, List.setIfInBounds_toArray, List.set_cons_zero, List.set_cons_succ])); ((refine wpAnyH_take (i := 11) (v := undef) rfl (by kernel_rfl) (by kernel_rfl) (by kernel_rfl) (fun _ _ _ h => h) (Or.inr ⟨by kernel_rfl, rfl⟩) (by assumption) ?_); (try simp only [Act.put, List.setIfInBounds_toArray, List.set_cons_zero, List.set_cons_succ])); ((refine wpAnyH_take (i := 12) (v := undef) rfl (by kernel_rfl) (by kernel_rfl) (by kernel_rfl) (fun _ _ _ h => h) (Or.inr ⟨by kernel_rfl, rfl⟩) (by assumption) ?_); (try simp only [Act.put, List.setIfInBounds_toArray, List.set_cons_zero, List.set_cons_succ])); ((refine wpAnyH_take (i := 13) (v := undef) rfl (by kernel_rfl) (by kernel_rfl) (by kernel_rfl) (fun _ _ _ h => h) (Or.inr ⟨by kernel_rfl, rfl⟩) (by assumption) ?_); (try simp only [Act.put, List.setIfInBounds_toArray, List.set_cons_zero, List.set_cons_succ])); ((refine wpAnyH_take (i := 14) (v := undef) rfl (by kernel_rfl) (by kernel_rfl) (by kernel_rfl) (fun _ _ _ h => h) (Or.inr ⟨by kernel_rfl, rfl⟩) (by assumption) ?_); (try simp only [Act.put, List.setIfInBounds_toArray, List.set_cons_zero, List.set_cons_succ])); ((refine wpAnyH_take (i := 15) (v := undef) rfl (by kernel_rfl) (by kernel_rfl) (by kernel_rfl) (fun _ _ _ h => h) (Or.inr ⟨by kernel_rfl, rfl⟩) (by assumption) ?_); (try simp only [Act.put, List.setIfInBounds_toArray, List.set_cons_zero, List.set_cons_succ])); ((refine wpAnyH_take (i := 16) (v := undef) rfl (by kernel_rfl) (by kernel_rfl) (by kernel_rfl) (fun _ _ _ h => h) (Or.inr ⟨by kernel_rfl, rfl⟩) (by assumption) ?_); (try simp only [Act.put, List.setIfInBounds_toArray, List.set_cons_zero, List.set_cons_succ])); ((refine wpAnyH_take (i := 17) (v := undef) rfl (by kernel_rfl) (by kernel_rfl) (by kernel_rfl) (fun _ _ _ h => h) (Or.inr ⟨by kernel_rfl, rfl⟩) (by assumption) ?_); (try simp only [Act.put, List.setIfInBounds_toArray, List.set_cons_zero, List.set_cons_succ])); ((refine wpAnyH_take (i := 18) (v := undef) rfl (by kernel_rfl) (by kernel_rfl) (by kernel_rfl) (fun _ _ _ h => h) (Or.inr ⟨by kernel_rfl, rfl⟩) (by assumption) ?_); (try simp only [Act.put, List.setIfInBounds_toArray, List.set_cons_zero, List.set_cons_succ])); ((refine wpAnyH_take (i := 19) (v := undef) rfl (by kernel_rfl) (by kernel_rfl) (by kernel_rfl) (fun _ _ _ h => h) (Or.inr ⟨by kernel_rfl, rfl⟩) (by assumption) ?_); (try simp only [Act.put, List.setIfInBounds_toArray, List.set_cons_zero, List.set_cons_succ])); ((refine wpAnyH_take (i := 20) (v := undef) rfl (by kernel_rfl) (by kernel_rfl) (by kernel_rfl) (fun _ _ _ h => h) (Or.inr ⟨by kernel_rfl, rfl⟩) (by assumption) ?_); (try simp only [Act.put, List.setIfInBounds_toArray, List.set_cons_zero, List.set_cons_succ])); ((refine wpAnyH_take (i := 21) (v := undef) rfl (by kernel_rfl) (by kernel_rfl) (by kernel_rfl) (fun _ _ _ h => h) (Or.inr ⟨by kernel_rfl, rfl⟩) (by assumption) ?_); (try simp only [Act.put, List.setIfInBounds_toArray, List.set_cons_zero, List.set_cons_succ])); ((refine wpAnyH_take (i := 22) (v := undef) rfl (by kernel_rfl) (by kernel_rfl) (by kernel_rfl) (fun _ _ _ h => h) (Or.inr ⟨by kernel_rfl, rfl⟩) (by assumption) ?_); (try simp only [Act.put, List.setIfInBounds_toArray, List.set_cons_zero, List.set_cons_succ])); ((refine wpAnyH_take (i := 23) (v := undef) rfl (by kernel_rfl) (by kernel_rfl) (by kernel_rfl) (fun _ _ _ h => h) (Or.inr ⟨by kernel_rfl, rfl⟩) (by assumption) ?_); (try simp only [Act.put, List.setIfInBounds_toArray, List.set_cons_zero, List.set_cons_succ])))
                  (((refine wpAnyH_take (i := 24) (v := ?_) rfl (by kernel_rfl) (by kernel_rfl) (by kernel_rfl) (fun _ _ _ h => h) (Or.inl ⟨by kernel_rfl, ?_⟩) (by assumption) ?_); rotate_left 1; (focus (intro w hSw; (try dsimp only at hSw); go_simp; (try with_reducible rfl))); (try simp only [Act.put, List.setIfInBounds_toArray, List.set_cons_zero, List.set_cons_succ])); ((refine wpAnyH_take (i := 25) (v := ?_) rfl (by kernel_rfl) (by kernel_rfl) (by kernel_rfl) (fun _ _ _ h => h) (Or.inl ⟨by kernel_rfl, ?_⟩) (by assumption) ?_); rotate_left 1; (focus (intro w hSw; (try dsimp only at hSw); go_simp; (try with_reducible rfl))); (try simp only [Act.put, List.setIfInBounds_toArray, List.set_cons_zero, List.set_cons_succ])))
                  refine wpAnyH_done (by kernel_rfl) ?_ _
                  go_simp
                  go_wp2_with fail
                  go_meet
                  exact ⟨by rw [HSP.out], HE17.out.trans hEa⟩
              case rest =>
                obtain ⟨rfl, hEc⟩ := hcut
                obtain ⟨wc2, hwc2, _⟩ : ∃ W, W = _ ∧ E wr W := ⟨_, rfl, hEc⟩
                subst hwc2
                clear hsp
                have c0 := HCR.out _ hEc
                have HEc := Lib.hid (hE.trans hEc)
                clear hEc
                go_wp2_with fail
                refine (HH2k.out _ HEc.out).mono ?_
                rintro e w18 ⟨rfl, hE18⟩
                clear c0
                go_wp2_with fail
                go_roundw
                case rel => exact ⟨k + 1, by omega, by go_num, HEc.out.trans hE18⟩
                case measure => simp [intOf]; omega
          · have hk4I : ¬ (k : Int) < 40 := by omega
            go_wp2_with fail
            go_roundw
            case rel => exact ⟨i + 1, by omega, by go_num, hE⟩
            case measure => simp [intOf]; omega
        · go_wp2_with fail
          go_roundw
          case rel => exact ⟨i + 1, by omega, by go_num, hE⟩
          case measure => simp [intOf]; omega
    · go_wp2_with fail
      refine (HLV.out _).mono ?_
      rintro e w17 ⟨rfl, hE17⟩
      go_wp2_with fail
      go_ret
      exact ⟨rfl, (((HE1.out.trans HE2.out).trans HE2z.out).trans hE).trans hE17⟩
end Go.Proofs.Ytmeplpiamkaniaa
