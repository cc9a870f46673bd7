/- Lemmas of the claim, joined: LawOU. No condition. -/
import Derived.Test.YtmeplpiamkaniaaJM
import Derived.Test.YtmeplpiamkaniaaJF
import Derived.Test.YtmeplpiamkaniaaJI
import Derived.Test.YtmeplpiamkaniaaJL
/- OriginUnits: Sources, Roots and Ancestors agree with the model. -/
namespace Go.Proofs.Ytmeplpiamkaniaa
set_option linter.unusedVariables false
set_option linter.unusedSimpArgs false
open Go.RowKit

theorem four_lots (W : World) (x y : Lt) (hx : WfL x) (hy : WfL y) : LotsAt (W.alloc (.cells #[.int .i64 x.1, .int .i64 x.2.1, .int .i64 x.2.2, .int .i64 y.1, .int .i64 y.2.1, .int .i64 y.2.2, .int .i64 5, .int .i64 0, .int .i64 1, .int .i64 0, .int .i64 0, .int .i64 0] 32)) (some ⟨W.heap.size, 0, none⟩) 4 4 [x, y, (5, 0, 1), (0, 0, 0)] :=
  lots_made W [x, y, (5, 0, 1), (0, 0, 0)] (by
    intro z hz
    simp only [List.mem_cons, List.not_mem_nil, or_false] at hz
    rcases hz with rfl | rfl | rfl | rfl
    · exact hx
    · exact hy
    · exact wfl_lit (by decide)
    · exact wfl_lit (by decide)) (by simp) (by simp)
set_option linter.unusedSimpArgs false in
set_option maxHeartbeats 16000000 in
set_option maxRecDepth 100000 in
theorem originUnits_w (A0 : Option Addr) (n0 c0 : Nat) (l0 : List Int) (A1 : Option Addr) (n1 c1 : Nat) (l1 : List Int) (w : World) (h0 : Nums .i64 w A0 n0 c0 l0) (h1 : Nums .i64 w A1 n1 c1 l1) :
    Calls Try.prog 4 #[.slice A0 n0 c0, .slice A1 n1 c1] w (RetK w true) := by
  have HFL := Lib.hid (refFlows_c A0 n0 c0 l0 w h0)
  have H1 := Lib.hid h1
  clear h0 h1
  go_enter Try.func4, Try.ntmps4
  go_upto_region 2 with (go_at_call 9; refine HFL.out.mono ?_; rintro e w1 ⟨fs, A7, n7, c7, hGen, hn9, rfl, hF, hE1⟩)
  have HGE := Lib.hid hGen
  have HF := Lib.hid hF
  have HE1 := Lib.hid hE1
  have HN9 := Lib.hid hn9
  have HNW := Lib.hid (newOk_c A7 n7 c7 fs w1 hF (by omega) hGen.made hGen.ok)
  have HLV := Lib.hid (fun W => lives15_c W)
  clear hGen hF hE1 hn9
  go_upto_region 5 with (go_at_call 10; refine HNW.out.mono ?_; rintro e w2 ⟨g, X, rfl, hG, hE2, hX2⟩)
  have HG := Lib.hid hG
  have HE2 := Lib.hid hE2
  have HLT := Lib.hid (show Calls Try.prog 12 #[.slice A7 n7 c7, .slice A1 n1 c1, .int .i64 0] w2 (RetSome w2) from refLot_c A7 n7 c7 fs A1 n1 c1 l1 0 w2 (HF.out.e hE2) HGE.out.rng (H1.out.e (HE1.out.trans hE2)) (by omega))
  have HL3 := Lib.hid (fun W (hE : E w2 W) => show Calls Try.prog 12 #[.slice A7 n7 c7, .slice A1 n1 c1, .int .i64 3] W (RetSome W) from refLot_c A7 n7 c7 fs A1 n1 c1 l1 3 W (HF.out.e (HE2.out.trans hE)) HGE.out.rng (H1.out.e ((HE1.out.trans HE2.out).trans hE)) (by omega))
  have HC := Lib.hid (HGE.out.c2304 HN9.out)
  obtain ⟨r, hr⟩ := HGE.out.ok.root
  obtain ⟨rk, hrk⟩ := HGE.out.ok.rk
  have HR := Lib.hid hr
  have HRK := Lib.hid hrk
  clear hG hE2 hX2 HNW hr hrk
  go_wp2_with fail
  refine HLT.out.mono ?_
  rintro e w3 ⟨x, hwx, he, hE3⟩
  unfold ltV at he
  subst he
  have HWX := Lib.hid hwx
  have HL3b := Lib.hid (HL3.out w3 hE3)
  have HE3 := Lib.hid hE3
  clear hwx hE3 HLT HL3
  go_wp2_with fail
  refine HL3b.out.mono ?_
  rintro e w4 ⟨y, hwy, he, hE4⟩
  unfold ltV at he
  subst he
  obtain ⟨w5, hw5⟩ : ∃ w5, w4.alloc (.cells #[.int .i64 x.1, .int .i64 x.2.1, .int .i64 x.2.2, .int .i64 y.1, .int .i64 y.2.1, .int .i64 y.2.2, .int .i64 5, .int .i64 0, .int .i64 1, .int .i64 0, .int .i64 0, .int .i64 0] 32) = w5 := ⟨_, rfl⟩
  have hE5 : E w4 w5 := by rw [← hw5]; exact (E.refl w4).alloc _
  have hL5 := four_lots w4 x y HWX.out hwy
  rw [hw5] at hL5
  have HL5 := Lib.hid hL5
  have HE5 := Lib.hid ((HE3.out.trans hE4).trans hE5)
  clear hwy hE4 hE5 hL5
  go_wp2_with fail
  try rw [hw5]
  clear hw5
  generalize w4.heap.size = bq at *
  go_loopw [9] (fun t9 wr => ∃ i : Nat, i ≤ 4 ∧ t9 = .int .i64 i ∧ E w5 wr) (fun t9 _ => 4 - (intOf t9).toNat)
  case atStart => exact ⟨0, Nat.zero_le _, rfl, E.refl _⟩
  case round =>
    obtain ⟨i, hi, rfl, hE⟩ := hrel
    by_cases hlt : i < 4
    · have hiI : (i : Int) < 4 := by omega
      obtain ⟨b, o, z, hAb, hb, hz, hwz, d0, d1, d2⟩ := (HL5.out.e hE).get hlt
      injection hAb with hAb
      injection hAb with hb1 hb2
      subst hb1 hb2
      simp only [Nat.zero_add] at d0 d1 d2
      have HEW := Lib.hid hE
      have HEZ := Lib.hid (HE5.out.trans hE)
      have HS := Lib.hid (fun W (hW : E wr W) => show W.cell? ⟨bq, i * 3, none⟩ = some (.int .i64 z.1) ∧ W.cell? ⟨bq, i * 3 + 1, none⟩ = some (.int .i64 z.2.1) ∧ W.cell? ⟨bq, i * 3 + 2, none⟩ = some (.int .i64 z.2.2) from ⟨(hW.cell (p := ⟨bq, _, none⟩) hb).trans d0, (hW.cell (p := ⟨bq, _, none⟩) hb).trans d1, (hW.cell (p := ⟨bq, _, none⟩) hb).trans d2⟩)
      have hEa := (E.refl wr).drew
      clear hz d0 d1 d2 hE hb
      go_upto_region 9 with fail
      refine wp_region_held_drew (S := (fun W => W.cell? ⟨bq, i * 3, none⟩ = some (.int .i64 z.1) ∧ W.cell? ⟨bq, i * 3 + 1, none⟩ = some (.int .i64 z.2.1) ∧ W.cell? ⟨bq, i * 3 + 2, none⟩ = some (.int .i64 z.2.2))) (by kernel_rfl) (HS.out _ hEa) (fun hHeld => ?_)
      (((refine wpAnyH_take (i := 0) (v := ?_) rfl (by kernel_rfl) (by kernel_rfl) (by kernel_rfl) (fun _ _ _ h => h) (Or.inl ⟨by kernel_rfl, ?_⟩) (by assumption) ?_); rotate_left 1; (focus (intro w hSw; (try dsimp only at hSw); go_simp; (try with_reducible rfl))); (try simp only [Act.put, List.setIfInBounds_toArray, List.set_cons_zero, List.set_cons_succ])); ((refine wpAnyH_take (i := 1) (v := ?_) rfl (by kernel_rfl) (by kernel_rfl) (by kernel_rfl) (fun _ _ _ h => h) (Or.inl ⟨by kernel_rfl, ?_⟩) (by assumption) ?_); rotate_left 1; (focus (intro w hSw; (try dsimp only at hSw); go_simp; (try with_reducible rfl))); (try simp only [Act.put, List.setIfInBounds_toArray, List.set_cons_zero, List.set_cons_succ])); ((refine wpAnyH_take (i := 2) (v := ?_) rfl (by kernel_rfl) (by kernel_rfl) (by kernel_rfl) (fun _ _ _ h => h) (Or.inl ⟨by kernel_rfl, ?_⟩) (by assumption) ?_); rotate_left 1; (focus (intro w hSw; (try dsimp only at hSw); go_simp; (try with_reducible rfl))); (try simp only [Act.put, List.setIfInBounds_toArray, List.set_cons_zero, List.set_cons_succ])); ((refine wpAnyH_take (i := 3) (v := ?_) rfl (by kernel_rfl) (by kernel_rfl) (by kernel_rfl) (fun _ _ _ h => h) (Or.inl ⟨by kernel_rfl, ?_⟩) (by assumption) ?_); rotate_left 1; (focus (intro w hSw; (try dsimp only at hSw); go_simp; (try with_reducible rfl))); (try simp only [Act.put, List.setIfInBounds_toArray, List.set_cons_zero, List.set_cons_succ])); ((refine wpAnyH_take (i := 4) (v := ?_) rfl (by kernel_rfl) (by kernel_rfl) (by kernel_rfl) (fun _ _ _ h => h) (Or.inl ⟨by kernel_rfl, ?_⟩) (by assumption) ?_); rotate_left 1; (focus (intro w hSw; (try dsimp only at hSw); go_simp; (try with_reducible rfl))); (try simp only [Act.put, List.setIfInBounds_toArray, List.set_cons_zero, List.set_cons_succ])); ((refine wpAnyH_take (i := 6) (v := ?_) rfl (by kernel_rfl) (by kernel_rfl) (by kernel_rfl) (fun _ _ _ h => h) (Or.inl ⟨by kernel_rfl, ?_⟩) (by assumption) ?_); rotate_left 1; (focus (intro w hSw; (try dsimp only at hSw); go_simp; (try with_reducible rfl))); (try simp only [Act.put, List.setIfInBounds_toArray, List.set_cons_zero, List.set_cons_succ])); ((refine wpAnyH_take (i := 7) (v := ?_) rfl (by kernel_rfl) (by kernel_rfl) (by kernel_rfl) (fun _ _ _ h => h) (Or.inl ⟨by kernel_rfl, ?_⟩) (by assumption) ?_); rotate_left 1; (focus (intro w hSw; (try dsimp only at hSw); go_simp; (try with_reducible rfl))); (try simp only [Act.put, List.setIfInBounds_toArray, List.set_cons_zero, List.set_cons_succ])); ((refine wpAnyH_take (i := 8) (v := ?_) rfl (by kernel_rfl) (by kernel_rfl) (by kernel_rfl) (fun _ _ _ h => h) (Or.inl ⟨by kernel_rfl, ?_⟩) (by assumption) ?_); rotate_left 1; (focus (intro w hSw; (try dsimp only at hSw); go_simp; (try with_reducible rfl))); (try simp only [Act.put, List.setIfInBounds_toArray, List.set_cons_zero, List.set_cons_succ])); ((refine wpAnyH_take (i := 9) (v := ?_) rfl (by kernel_rfl) (by kernel_rfl) (by kernel_rfl) (fun _ _ _ h => h) (Or.inl ⟨by kernel_rfl, ?_⟩) (by assumption) ?_); rotate_left 1; (focus (intro w hSw; (try dsimp only at hSw); go_simp; (try with_reducible rfl))); (try simp only [Act.put, List.setIfInBounds_toArray, List.set_cons_zero, List.set_cons_succ])); ((refine wpAnyH_take (i := 10) (v := ?_) rfl (by kernel_rfl) (by kernel_rfl) (by kernel_rfl) (fun _ _ _ h => h) (Or.inl ⟨by kernel_rfl, ?_⟩) (by assumption) ?_); rotate_left 1; (focus (intro w hSw; (try dsimp only at hSw); go_simp; (try with_reducible rfl))); (try simp only [Act.put, List.setIfInBounds_toArray, List.set_cons_zero, List.set_cons_succ])))
      (((refine wpAnyH_ready (rs := [5]) (by kernel_rfl) (by simp) ?_); (refine AllReadyH.cons rfl (fun K hK => ?_) AllReadyH.nil); (rw [if_pos (by kernel_rfl)]); go_simp))
      refine (gSources_c X g fs z _ (HG.out.e (HEZ.out.trans hEa)) hwz).mono ?_
      rintro e wn ⟨A1, n1, c1, rfl, hO1, hEn⟩
      have R1 := Lib.hid hO1.reads
      clear hO1
      have HEk := Lib.hid hEa
      replace hEa := hEa.trans hEn
      clear hEn
      refine hK _ _ (HS.out _ hEa) (fun hh => ?_)
      clear hK K hHeld
      have hHeld := hh
      clear hh
      (try simp only [List.getElem_toArray, List.getElem_cons_succ, List.getElem_cons_zero, Act.put, List.setIfInBounds_toArray, List.set_cons_zero, List.set_cons_succ])
      (((refine wpAnyH_ready (rs := [11]) (by kernel_rfl) (by simp) ?_); (refine AllReadyH.cons rfl (fun K hK => ?_) AllReadyH.nil); (rw [if_pos (by kernel_rfl)]); go_simp))
      refine (refSources_c A7 n7 c7 fs z _ (HF.out.e ((HE2.out.trans HEZ.out).trans hEa)) hwz HGE.out.ok).mono ?_
      rintro e wn ⟨A2, n2, c2, rfl, hO2, hEn⟩
      have R1' := Lib.hid (R1.out.e hEn)
      have R2 := Lib.hid hO2.reads
      clear hO2
      replace hEa := hEa.trans hEn
      clear hEn
      refine hK _ _ (HS.out _ hEa) (fun hh => ?_)
      clear hK K hHeld
      have hHeld := hh
      clear hh
      (try simp only [List.getElem_toArray, List.getElem_cons_succ, List.getElem_cons_zero, Act.put, List.setIfInBounds_toArray, List.set_cons_zero, List.set_cons_succ])
      (((refine wpAnyH_ready (rs := [12]) (by kernel_rfl) (by simp) ?_); (refine AllReadyH.cons rfl (fun K hK => ?_) AllReadyH.nil); (rw [if_pos (by kernel_rfl)]); go_simp))
      refine (same_self A1 A2 n1 c1 n2 c2 _ _ R1'.out R2.out).mono ?_
      rintro e wn ⟨rfl, hEn⟩
      replace hEa := hEa.trans hEn
      clear hEn
      refine hK _ _ (HS.out _ hEa) (fun hh => ?_)
      clear hK K hHeld
      have hHeld := hh
      clear hh
      (try simp only [List.getElem_toArray, List.getElem_cons_succ, List.getElem_cons_zero, Act.put, List.setIfInBounds_toArray, List.set_cons_zero, List.set_cons_succ])
      (((refine wpAnyH_take (i := 13) (v := ?_) rfl (by kernel_rfl) (by kernel_rfl) (by kernel_rfl) (fun _ _ _ h => h) (Or.inl ⟨by kernel_rfl, ?_⟩) (by assumption) ?_); rotate_left 1; (focus (intro w hSw; (try dsimp only at hSw); go_simp; (try with_reducible rfl))); (try simp only [Act.put, List.setIfInBounds_toArray, List.set_cons_zero, List.set_cons_succ])); ((refine wpAnyH_take (i := 14) (v := ?_) rfl (by kernel_rfl) (by kernel_rfl) (by kernel_rfl) (fun _ _ _ h => h) (Or.inl ⟨by kernel_rfl, ?_⟩) (by assumption) ?_); rotate_left 1; (focus (intro w hSw; (try dsimp only at hSw); go_simp; (try with_reducible rfl))); (try simp only [Act.put, List.setIfInBounds_toArray, List.set_cons_zero, List.set_cons_succ])); ((refine wpAnyH_take (i := 15) (v := ?_) rfl (by kernel_rfl) (by kernel_rfl) (by kernel_rfl) (fun _ _ _ h => h) (Or.inl ⟨by kernel_rfl, ?_⟩) (by assumption) ?_); rotate_left 1; (focus (intro w hSw; (try dsimp only at hSw); go_simp; (try with_reducible rfl))); (try simp only [Act.put, List.setIfInBounds_toArray, List.set_cons_zero, List.set_cons_succ])); ((refine wpAnyH_take (i := 16) (v := ?_) rfl (by kernel_rfl) (by kernel_rfl) (by kernel_rfl) (fun _ _ _ h => h) (Or.inl ⟨by kernel_rfl, ?_⟩) (by assumption) ?_); rotate_left 1; (focus (intro w hSw; (try dsimp only at hSw); go_simp; (try with_reducible rfl))); (try simp only [Act.put, List.setIfInBounds_toArray, List.set_cons_zero, List.set_cons_succ])); ((refine wpAnyH_take (i := 17) (v := ?_) rfl (by kernel_rfl) (by kernel_rfl) (by kernel_rfl) (fun _ _ _ h => h) (Or.inl ⟨by kernel_rfl, ?_⟩) (by assumption) ?_); rotate_left 1; (focus (intro w hSw; (try dsimp only at hSw); go_simp; (try with_reducible rfl))); (try simp only [Act.put, List.setIfInBounds_toArray, List.set_cons_zero, List.set_cons_succ])); ((refine wpAnyH_take (i := 18) (v := ?_) rfl (by kernel_rfl) (by kernel_rfl) (by kernel_rfl) (fun _ _ _ h => h) (Or.inl ⟨by kernel_rfl, ?_⟩) (by assumption) ?_); rotate_left 1; (focus (intro w hSw; (try dsimp only at hSw); go_simp; (try with_reducible rfl))); (try simp only [Act.put, List.setIfInBounds_toArray, List.set_cons_zero, List.set_cons_succ])); ((refine wpAnyH_take (i := 19) (v := ?_) rfl (by kernel_rfl) (by kernel_rfl) (by kernel_rfl) (fun _ _ _ h => h) (Or.inl ⟨by kernel_rfl, ?_⟩) (by assumption) ?_); rotate_left 1; (focus (intro w hSw; (try dsimp only at hSw); go_simp; (try with_reducible rfl))); (try simp only [Act.put, List.setIfInBounds_toArray, List.set_cons_zero, List.set_cons_succ])); ((refine wpAnyH_take (i := 21) (v := ?_) rfl (by kernel_rfl) (by kernel_rfl) (by kernel_rfl) (fun _ _ _ h => h) (Or.inl ⟨by kernel_rfl, ?_⟩) (by assumption) ?_); rotate_left 1; (focus (intro w hSw; (try dsimp only at hSw); go_simp; (try with_reducible rfl))); (try simp only [Act.put, List.setIfInBounds_toArray, List.set_cons_zero, List.set_cons_succ])); ((refine wpAnyH_take (i := 22) (v := ?_) rfl (by kernel_rfl) (by kernel_rfl) (by kernel_rfl) (fun _ _ _ h => h) (Or.inl ⟨by kernel_rfl, ?_⟩) (by assumption) ?_); rotate_left 1; (focus (intro w hSw; (try dsimp only at hSw); go_simp; (try with_reducible rfl))); (try simp only [Act.put, List.setIfInBounds_toArray, List.set_cons_zero, List.set_cons_succ])); ((refine wpAnyH_take (i := 23) (v := ?_) rfl (by kernel_rfl) (by kernel_rfl) (by kernel_rfl) (fun _ _ _ h => h) (Or.inl ⟨by kernel_rfl, ?_⟩) (by assumption) ?_); rotate_left 1; (focus (intro w hSw; (try dsimp only at hSw); go_simp; (try with_reducible rfl))); (try simp only [Act.put, List.setIfInBounds_toArray, List.set_cons_zero, List.set_cons_succ])); ((refine wpAnyH_take (i := 24) (v := ?_) rfl (by kernel_rfl) (by kernel_rfl) (by kernel_rfl) (fun _ _ _ h => h) (Or.inl ⟨by kernel_rfl, ?_⟩) (by assumption) ?_); rotate_left 1; (focus (intro w hSw; (try dsimp only at hSw); go_simp; (try with_reducible rfl))); (try simp only [Act.put, List.setIfInBounds_toArray, List.set_cons_zero, List.set_cons_succ])); ((refine wpAnyH_take (i := 25) (v := ?_) rfl (by kernel_rfl) (by kernel_rfl) (by kernel_rfl) (fun _ _ _ h => h) (Or.inl ⟨by kernel_rfl, ?_⟩) (by assumption) ?_); rotate_left 1; (focus (intro w hSw; (try dsimp only at hSw); go_simp; (try with_reducible rfl))); (try simp only [Act.put, List.setIfInBounds_toArray, List.set_cons_zero, List.set_cons_succ])))
      (((refine wpAnyH_ready (rs := [20]) (by kernel_rfl) (by simp) ?_); (refine AllReadyH.cons rfl (fun K hK => ?_) AllReadyH.nil); (rw [if_pos (by kernel_rfl)]); go_simp))
      refine (gRoots_c X g fs r z _ (HG.out.e (HEZ.out.trans hEa)) HR.out hwz (fun hh => HGE.out.has300 HN9.out hh)).mono ?_
      rintro e wn ⟨A3, n3, c3, rfl, hO3, hEn⟩
      have R3 := Lib.hid hO3.reads
      clear hO3
      replace hEa := hEa.trans hEn
      clear hEn
      refine hK _ _ (HS.out _ hEa) (fun hh => ?_)
      clear hK K hHeld
      have hHeld := hh
      clear hh
      (try simp only [List.getElem_toArray, List.getElem_cons_succ, List.getElem_cons_zero, Act.put, List.setIfInBounds_toArray, List.set_cons_zero, List.set_cons_succ])
      (((refine wpAnyH_ready (rs := [26]) (by kernel_rfl) (by simp) ?_); (refine AllReadyH.cons rfl (fun K hK => ?_) AllReadyH.nil); (rw [if_pos (by kernel_rfl)]); go_simp))
      refine (refRoots_c fs r rk HGE.out.ok HR.out HRK.out (by have := HC.out; omega) (rk z.1 + 1) A7 n7 c7 z _ (Nat.lt_succ_self _) (HF.out.e ((HE2.out.trans HEZ.out).trans hEa)) hwz).mono ?_
      rintro e wn ⟨A4, n4, c4, rfl, hO4, hEn⟩
      have R3' := Lib.hid (R3.out.e hEn)
      have R4 := Lib.hid hO4.reads
      clear hO4
      replace hEa := hEa.trans hEn
      clear hEn
      refine hK _ _ (HS.out _ hEa) (fun hh => ?_)
      clear hK K hHeld
      have hHeld := hh
      clear hh
      (try simp only [List.getElem_toArray, List.getElem_cons_succ, List.getElem_cons_zero, Act.put, List.setIfInBounds_toArray, List.set_cons_zero, List.set_cons_succ])
      (((refine wpAnyH_ready (rs := [27]) (by kernel_rfl) (by simp) ?_); (refine AllReadyH.cons rfl (fun K hK => ?_) AllReadyH.nil); (rw [if_pos (by kernel_rfl)]); go_simp))
      refine (same_self A3 A4 n3 c3 n4 c4 _ _ R3'.out R4.out).mono ?_
      rintro e wn ⟨rfl, hEn⟩
      replace hEa := hEa.trans hEn
      clear hEn
      refine hK _ _ (HS.out _ hEa) (fun hh => ?_)
      clear hK K hHeld
      have hHeld := hh
      clear hh
      (try simp only [List.getElem_toArray, List.getElem_cons_succ, List.getElem_cons_zero, Act.put, List.setIfInBounds_toArray, List.set_cons_zero, List.set_cons_succ])
      (((refine wpAnyH_take (i := 28) (v := ?_) rfl (by kernel_rfl) (by kernel_rfl) (by kernel_rfl) (fun _ _ _ h => h) (Or.inl ⟨by kernel_rfl, ?_⟩) (by assumption) ?_); rotate_left 1; (focus (intro w hSw; (try dsimp only at hSw); go_simp; (try with_reducible rfl))); (try simp only [Act.put, List.setIfInBounds_toArray, List.set_cons_zero, List.set_cons_succ])); ((refine wpAnyH_take (i := 29) (v := ?_) rfl (by kernel_rfl) (by kernel_rfl) (by kernel_rfl) (fun _ _ _ h => h) (Or.inl ⟨by kernel_rfl, ?_⟩) (by assumption) ?_); rotate_left 1; (focus (intro w hSw; (try dsimp only at hSw); go_simp; (try with_reducible rfl))); (try simp only [Act.put, List.setIfInBounds_toArray, List.set_cons_zero, List.set_cons_succ])); ((refine wpAnyH_take (i := 30) (v := ?_) rfl (by kernel_rfl) (by kernel_rfl) (by kernel_rfl) (fun _ _ _ h => h) (Or.inl ⟨by kernel_rfl, ?_⟩) (by assumption) ?_); rotate_left 1; (focus (intro w hSw; (try dsimp only at hSw); go_simp; (try with_reducible rfl))); (try simp only [Act.put, List.setIfInBounds_toArray, List.set_cons_zero, List.set_cons_succ])); ((refine wpAnyH_take (i := 31) (v := ?_) rfl (by kernel_rfl) (by kernel_rfl) (by kernel_rfl) (fun _ _ _ h => h) (Or.inl ⟨by kernel_rfl, ?_⟩) (by assumption) ?_); rotate_left 1; (focus (intro w hSw; (try dsimp only at hSw); go_simp; (try with_reducible rfl))); (try simp only [Act.put, List.setIfInBounds_toArray, List.set_cons_zero, List.set_cons_succ])); ((refine wpAnyH_take (i := 32) (v := ?_) rfl (by kernel_rfl) (by kernel_rfl) (by kernel_rfl) (fun _ _ _ h => h) (Or.inl ⟨by kernel_rfl, ?_⟩) (by assumption) ?_); rotate_left 1; (focus (intro w hSw; (try dsimp only at hSw); go_simp; (try with_reducible rfl))); (try simp only [Act.put, List.setIfInBounds_toArray, List.set_cons_zero, List.set_cons_succ])); ((refine wpAnyH_take (i := 33) (v := ?_) rfl (by kernel_rfl) (by kernel_rfl) (by kernel_rfl) (fun _ _ _ h => h) (Or.inl ⟨by kernel_rfl, ?_⟩) (by assumption) ?_); rotate_left 1; (focus (intro w hSw; (try dsimp only at hSw); go_simp; (try with_reducible rfl))); (try simp only [Act.put, List.setIfInBounds_toArray, List.set_cons_zero, List.set_cons_succ])); ((refine wpAnyH_take (i := 34) (v := ?_) rfl (by kernel_rfl) (by kernel_rfl) (by kernel_rfl) (fun _ _ _ h => h) (Or.inl ⟨by kernel_rfl, ?_⟩) (by assumption) ?_); rotate_left 1; (focus (intro w hSw; (try dsimp only at hSw); go_simp; (try with_reducible rfl))); (try simp only [Act.put, List.setIfInBounds_toArray, List.set_cons_zero, List.set_cons_succ])); ((refine wpAnyH_take (i := 35) (v := ?_) rfl (by kernel_rfl) (by kernel_rfl) (by kernel_rfl) (fun _ _ _ h => h) (Or.inl ⟨by kernel_rfl, ?_⟩) (by assumption) ?_); rotate_left 1; (focus (intro w hSw; (try dsimp only at hSw); go_simp; (try with_reducible rfl))); (try simp only [Act.put, List.setIfInBounds_toArray, List.set_cons_zero, List.set_cons_succ])); ((refine wpAnyH_take (i := 37) (v := ?_) rfl (by kernel_rfl) (by kernel_rfl) (by kernel_rfl) (fun _ _ _ h => h) (Or.inl ⟨by kernel_rfl, ?_⟩) (by assumption) ?_); rotate_left 1; (focus (intro w hSw; (try dsimp only at hSw); go_simp; (try with_reducible rfl))); (try simp only [Act.put, List.setIfInBounds_toArray, List.set_cons_zero, List.set_cons_succ])); ((refine wpAnyH_take (i := 38) (v := ?_) rfl (by kernel_rfl) (by kernel_rfl) (by kernel_rfl) (fun _ _ _ h => h) (Or.inl ⟨by kernel_rfl, ?_⟩) (by assumption) ?_); rotate_left 1; (focus (intro w hSw; (try dsimp only at hSw); go_simp; (try with_reducible rfl))); (try simp only [Act.put, List.setIfInBounds_toArray, List.set_cons_zero, List.set_cons_succ])); ((refine wpAnyH_take (i := 39) (v := ?_) rfl (by kernel_rfl) (by kernel_rfl) (by kernel_rfl) (fun _ _ _ h => h) (Or.inl ⟨by kernel_rfl, ?_⟩) (by assumption) ?_); rotate_left 1; (focus (intro w hSw; (try dsimp only at hSw); go_simp; (try with_reducible rfl))); (try simp only [Act.put, List.setIfInBounds_toArray, List.set_cons_zero, List.set_cons_succ])); ((refine wpAnyH_take (i := 40) (v := ?_) rfl (by kernel_rfl) (by kernel_rfl) (by kernel_rfl) (fun _ _ _ h => h) (Or.inl ⟨by kernel_rfl, ?_⟩) (by assumption) ?_); rotate_left 1; (focus (intro w hSw; (try dsimp only at hSw); go_simp; (try with_reducible rfl))); (try simp only [Act.put, List.setIfInBounds_toArray, List.set_cons_zero, List.set_cons_succ])); ((refine wpAnyH_take (i := 41) (v := ?_) rfl (by kernel_rfl) (by kernel_rfl) (by kernel_rfl) (fun _ _ _ h => h) (Or.inl ⟨by kernel_rfl, ?_⟩) (by assumption) ?_); rotate_left 1; (focus (intro w hSw; (try dsimp only at hSw); go_simp; (try with_reducible rfl))); (try simp only [Act.put, List.setIfInBounds_toArray, List.set_cons_zero, List.set_cons_succ])))
      (((refine wpAnyH_ready (rs := [36]) (by kernel_rfl) (by simp) ?_); (refine AllReadyH.cons rfl (fun K hK => ?_) AllReadyH.nil); (rw [if_pos (by kernel_rfl)]); go_simp))
      refine (gAnc_c X g fs z _ (HG.out.e (HEZ.out.trans hEa)) hwz (HGE.out.sm HN9.out)).mono ?_
      rintro e wn ⟨l5, hl5, A5, n5, c5, rfl, hO5, hEn⟩
      have R5 := Lib.hid hO5.reads
      have HL5 := Lib.hid hl5
      clear hO5 hl5
      replace hEa := hEa.trans hEn
      clear hEn
      refine hK _ _ (HS.out _ hEa) (fun hh => ?_)
      clear hK K hHeld
      have hHeld := hh
      clear hh
      (try simp only [List.getElem_toArray, List.getElem_cons_succ, List.getElem_cons_zero, Act.put, List.setIfInBounds_toArray, List.set_cons_zero, List.set_cons_succ])
      (((refine wpAnyH_ready (rs := [42]) (by kernel_rfl) (by simp) ?_); (refine AllReadyH.cons rfl (fun K hK => ?_) AllReadyH.nil); (rw [if_pos (by kernel_rfl)]); go_simp))
      refine (refAnc_c fs HGE.out.ok (by have := HC.out; omega) (HGE.out.sm HN9.out).n HGE.out.made A7 n7 c7 z _ (HF.out.e ((HE2.out.trans HEZ.out).trans hEa)) hwz).mono ?_
      rintro e wn ⟨l6, hl6, A6, n6, c6, rfl, hO6, hEn⟩
      have R5' := Lib.hid (R5.out.e hEn)
      have heq := HL5.out.eq hl6
      subst heq
      have R6 := Lib.hid hO6.reads
      clear hO6 hl6
      replace hEa := hEa.trans hEn
      clear hEn
      refine hK _ _ (HS.out _ hEa) (fun hh => ?_)
      clear hK K hHeld
      have hHeld := hh
      clear hh
      (try simp only [List.getElem_toArray, List.getElem_cons_succ, List.getElem_cons_zero, Act.put, List.setIfInBounds_toArray, List.set_cons_zero, List.set_cons_succ])
      (((refine wpAnyH_ready (rs := [43]) (by kernel_rfl) (by simp) ?_); (refine AllReadyH.cons rfl (fun K hK => ?_) AllReadyH.nil); (rw [if_pos (by kernel_rfl)]); go_simp))
      refine (same03_c A5 A6 n5 c5 n6 c6 l5 l5 _ R5'.out R6.out).mono ?_
      rintro e wn ⟨rfl, hQn⟩
      have hEn := E.of_q hQn
      replace hEa := hEa.trans hEn
      clear hEn hQn
      rw [show sameB l5 l5 = true by simp [sameB]]
      refine hK _ _ (HS.out _ hEa) (fun hh => ?_)
      clear hK K hHeld
      have hHeld := hh
      clear hh
      (try simp only [List.getElem_toArray, List.getElem_cons_succ, List.getElem_cons_zero, Act.put, List.setIfInBounds_toArray, List.set_cons_zero, List.set_cons_succ])
      (((refine wpAnyH_take (i := 44) (v := ?_) rfl (by kernel_rfl) (by kernel_rfl) (by kernel_rfl) (fun _ _ _ h => h) (Or.inl ⟨by kernel_rfl, ?_⟩) (by assumption) ?_); rotate_left 1; (focus (intro w hSw; (try dsimp only at hSw); go_simp; (try with_reducible rfl))); (try simp only [Act.put, List.setIfInBounds_toArray, List.set_cons_zero, List.set_cons_succ])); ((refine wpAnyH_take (i := 45) (v := ?_) rfl (by kernel_rfl) (by kernel_rfl) (by kernel_rfl) (fun _ _ _ h => h) (Or.inl ⟨by kernel_rfl, ?_⟩) (by assumption) ?_); rotate_left 1; (focus (intro w hSw; (try dsimp only at hSw); go_simp; (try with_reducible rfl))); (try simp only [Act.put, List.setIfInBounds_toArray, List.set_cons_zero, List.set_cons_succ])))
      refine wpAnyH_done (by kernel_rfl) ?_ _
      go_simp
      clear hHeld
      go_wp2_with fail
      go_roundw
      case rel => exact ⟨i + 1, by omega, by go_num, HEW.out.trans hEa⟩
      case measure => simp [intOf]; omega
    · go_wp2_with fail
      refine (HLV.out _).mono ?_
      rintro e w17 ⟨rfl, hE17⟩
      go_wp2_with fail
      go_ret
      exact ⟨rfl, (((HE1.out.trans HE2.out).trans HE5.out).trans hE).trans hE17⟩
end Go.Proofs.Ytmeplpiamkaniaa
