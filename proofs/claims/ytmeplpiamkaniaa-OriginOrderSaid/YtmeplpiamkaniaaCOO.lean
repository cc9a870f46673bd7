/- Lemmas of the claim, joined: LawOO. No condition. -/
import Derived.Test.YtmeplpiamkaniaaJM
import Derived.Test.YtmeplpiamkaniaaJF
import Derived.Test.YtmeplpiamkaniaaJI
import Derived.Test.YtmeplpiamkaniaaJN
/- OriginOrder: the order of the flows tells nothing. -/
namespace Go.Proofs.Ytmeplpiamkaniaa
set_option linter.unusedVariables false
set_option linter.unusedSimpArgs false
open Go.RowKit

theorem lot_new1 {W : World} {o : Obj} {x : Lt} (hx : WfL x) : LotsAt ((W.alloc o).alloc (.cells #[.int .i64 x.1, .int .i64 x.2.1, .int .i64 x.2.2] 32)) (some ⟨W.heap.size + 1, 0, none⟩) 1 1 [x] := by
  have := lot_new (w := W.alloc o) hx
  rwa [World.size_alloc] at this
theorem Sm.turn {fs : List Fl} (h : Sm fs) (s : Nat) : Sm (turnF fs s) := by
  refine ⟨by rw [turn_len]; exact h.n, ?_, fun f hf => h.m f ((turn_mem fs s f).1 hf)⟩
  have hp : (turnF fs s).Perm fs := List.perm_append_comm.trans (by rw [List.take_append_drop])
  have : cntU (turnF fs s) = cntU fs := (List.Perm.flatMap_right _ hp).length_eq
  rw [this]; exact h.u
set_option linter.unusedSimpArgs false in
set_option maxHeartbeats 16000000 in
set_option maxRecDepth 100000 in
theorem originOrder_w (A0 : Option Addr) (n0 c0 : Nat) (l0 : List Int) (A1 : Option Addr) (n1 c1 : Nat) (l1 : List Int) (k : Int) (w : World) (h0 : Nums .i64 w A0 n0 c0 l0) (h1 : Nums .i64 w A1 n1 c1 l1) :
    Calls Try.prog 6 #[.slice A0 n0 c0, .slice A1 n1 c1, .int .i64 k] w (RetK w true) := by
  have HFL := Lib.hid (refFlows_c A0 n0 c0 l0 w h0)
  have H1 := Lib.hid h1
  clear h0 h1
  go_enter Try.func6, Try.ntmps6
  go_upto_region 2 with (go_at_call 9; refine HFL.out.mono ?_; rintro e w1 ⟨fs, A7, n7, c7, hGen, hn9, rfl, hF, hE1⟩)
  have HGE := Lib.hid hGen
  have HF := Lib.hid hF
  have HE1 := Lib.hid hE1
  have HN9 := Lib.hid hn9
  have HNW := Lib.hid (newOk_c A7 n7 c7 fs w1 hF (by omega) hGen.made hGen.ok)
  have HLV := Lib.hid (fun W => lives15_c W)
  clear hGen hF hE1 hn9
  go_upto_region 3 with (go_at_call 10; refine HNW.out.mono ?_; rintro e w2 ⟨g, X, rfl, hG, hE2, hX2⟩)
  have HG := Lib.hid hG
  have HE2 := Lib.hid hE2
  have HX2 := Lib.hid hX2
  have HTU := Lib.hid (turned_c A7 n7 c7 fs k w2 (HF.out.e hE2) (by have := HN9.out; omega))
  obtain ⟨s, hs⟩ : ∃ s, turnS k = s := ⟨_, rfl⟩
  rw [hs] at HTU
  have HTG := Lib.hid (HGE.out.ok.turn s)
  clear hG hE2 hX2 HNW hs
  go_upto_region 4 with (first
    | (go_at_call 27; refine HTU.out.mono ?_; rintro e w3 ⟨A8, c8, rfl, hF8, hE3⟩; have HNB := Lib.hid (newOk_c A8 n7 c8 (turnF fs s) w3 hF8 (by have := HN9.out; omega) (fun f hf => HGE.out.made f ((turn_mem fs s f).1 hf)) HTG.out.1); have HE3 := Lib.hid hE3; clear hF8 hE3)
    | (go_at_call 10; refine HNB.out.mono ?_; rintro e w4 ⟨g2, X4, rfl, hG4, hE4, hX4⟩))
  have HG4 := Lib.hid hG4
  have HE4 := Lib.hid hE4
  have HX4 := Lib.hid hX4
  clear HTU HNB hG4 hE4 hX4
  go_upto_region 6 with fail
  have HE24 := Lib.hid (HE3.out.trans HE4.out)
  have HLT := Lib.hid (show Calls Try.prog 12 #[.slice A7 n7 c7, .slice A1 n1 c1, .int .i64 0] w4 (RetSome w4) from refLot_c A7 n7 c7 fs A1 n1 c1 l1 0 w4 (HF.out.e (HE2.out.trans HE24.out)) HGE.out.rng (H1.out.e ((HE1.out.trans HE2.out).trans HE24.out)) (by omega))
  go_upto_region 7 with (go_at_call 12; refine HLT.out.mono ?_; rintro e w5 ⟨x, hwx, he, hE5⟩; unfold ltV at he; subst he)
  obtain ⟨w6, hw6⟩ : ∃ w6, w5.alloc (.cells #[.int .i64 x.1, .int .i64 x.2.1, .int .i64 x.2.2] 32) = w6 := ⟨_, rfl⟩
  have hE6 : E w5 w6 := by rw [← hw6]; exact (E.refl w5).alloc _
  have HBB := Lib.hid (show LtBox w6 w5.heap.size x by rw [← hw6]; exact LtBox.new w5 x)
  try rw [hw6]
  have HWX := Lib.hid hwx
  have HZ45 := Lib.hid hE5.size
  have HE46 := Lib.hid (hE5.trans hE6)
  obtain ⟨hh, hhk⟩ := HGE.out.ok.hash
  obtain ⟨p, hG6⟩ := HG.out.e (HE24.out.trans (hE5.trans hE6))
  have HSA := Lib.hid (gHash_c X g fs x.1 p hh w6 hG6 hhk (fun f hf => ⟨by have := HGE.out.pl f hf; omega, by have := HGE.out.ml f hf; omega⟩) (by have := HGE.out.len HN9.out; have := HN9.out; omega) hwx.1)
  have HHK := Lib.hid hhk
  obtain ⟨hv, hhv⟩ : ∃ hv, hVal fs hh x.1 = hv := ⟨_, rfl⟩
  obtain ⟨kn, hkn⟩ : ∃ kn, (getF fs x.1).isSome = kn := ⟨_, rfl⟩
  rw [hhv, hkn] at HSA
  have HHV := Lib.hid (And.intro hhv hkn)
  obtain ⟨d0, d1, d2⟩ := HBB.out.cells
  clear hw6 hE5 hE6 hwx HLT hG6 hhk hhv hkn
  go_upto_region 8 with (go_at_call 28; refine HSA.out.mono ?_; rintro e w7 ⟨rfl, X7, hG7, hX7, hX7l⟩)
  have h2s := HE24.out.size
  have h3s := HE3.out.size
  have h4s := HE4.out.size
  have h6s := HE46.out.size
  have h12 := HE2.out.size
  have hXl := HG.out.lt
  have hX4l := HG4.out.lt
  have hx5 : w4.heap.size ≤ w5.heap.size := HZ45.out
  have HB7 := Lib.hid (show LtBox w7 w5.heap.size x from (hX7.block _ HBB.out.lt (fun e => by have := hXl _ e; omega)).trans HBB.out)
  obtain ⟨p2, hG47⟩ := (HG4.out.e HE46.out).ex hX7 (fun i hi hj => by have := HX4.out i hi; have := hXl i hj; omega)
  have HSB := Lib.hid (gHash_c X4 g2 (turnF fs s) x.1 p2 hh w7 hG47 (HTG.out.2.hash HHK.out) (fun f hf => ⟨by have := HGE.out.pl f ((turn_mem fs s f).1 hf); omega, by have := HGE.out.ml f ((turn_mem fs s f).1 hf); omega⟩) (by rw [turn_len]; have := HGE.out.len HN9.out; have := HN9.out; omega) HWX.out.1)
  rw [HTG.out.2.hVal, HTG.out.2.get, HHV.out.1, HHV.out.2] at HSB
  obtain ⟨e0, e1, e2⟩ := HB7.out.cells
  have HE17 := Lib.hid (e_ex (HE2.out.trans (HE24.out.trans HE46.out)) hX7 (fun i hi => HX2.out i hi))
  have HG7 := Lib.hid hG7
  have HX7 := Lib.hid hX7l
  clear hG7 hX7l hX7 hG47 d0 d1 d2 HSA h2s h3s h4s h6s h12 hXl hX4l hx5
  go_upto_region 9 with (go_at_call 28; refine HSB.out.mono ?_; rintro e w8 ⟨rfl, X8, hG8, hX8, hX8l⟩)
  have h2s := HE24.out.size
  have h3s := HE3.out.size
  have h4s := HE4.out.size
  have h6s := HE46.out.size
  have h12 := HE2.out.size
  have hx5 := HZ45.out
  have h56 := HBB.out.lt
  have HB8 := Lib.hid (show LtBox w8 w5.heap.size x from (hX8.block _ HB7.out.lt (fun e => by have := HG4.out.lt _ e; omega)).trans HB7.out)
  have HG78 := Lib.hid (HG7.out.ex hX8 (fun i hi hj => by
    have h1 := HX4.out i hj
    have h2 := HG4.out.lt i hj
    rcases HX7.out i hi with h3 | h3
    · have := HG.out.lt i h3; omega
    · omega))
  have HG8 := Lib.hid hG8
  have HE18 := Lib.hid (e_ex HE17.out hX8 (fun i hi => by have := HX4.out i hi; omega))
  obtain ⟨d0, d1, d2⟩ := HB8.out.cells
  clear hG8 hX8 hX8l e0 e1 e2 h2s h3s h4s h6s h12 hx5 h56 HSB
  obtain ⟨r, hr⟩ := HGE.out.ok.root
  have HRa := Lib.hid (fun W (hE : E w8 W) => gRoots_c X7 g fs r x W (HG78.out.e hE) hr HWX.out (fun h => HGE.out.has300 HN9.out h))
  have HRb := Lib.hid (fun W (hE : E w8 W) => (show Calls Try.prog 19 #[.pointer (some ⟨g2, 0, none⟩), ltV x] W (RetL W (rootF fs r x)) by
    have := gRoots_c X8 g2 (turnF fs s) r x W (HG8.out.e hE) (HTG.out.2.rootOf hr) HWX.out (fun h => HGE.out.has300 HN9.out (by rw [← HTG.out.2.has]; exact h))
    rwa [HTG.out.2.rootF] at this))
  have HAa := Lib.hid (fun W (hE : E w8 W) => gAnc_c X7 g fs x W (HG78.out.e hE) HWX.out (HGE.out.sm HN9.out))
  have HAb := Lib.hid (fun W (hE : E w8 W) => (show Calls Try.prog 22 #[.pointer (some ⟨g2, 0, none⟩), ltV x] W (RetSorted W (fun i => hasF fs x = true ∧ AncI fs x i)) by
    have := gAnc_c X8 g2 (turnF fs s) x W (HG8.out.e hE) HWX.out ((HGE.out.sm HN9.out).turn s)
    rwa [show (fun i => hasF (turnF fs s) x = true ∧ AncI (turnF fs s) x i) = (fun i => hasF fs x = true ∧ AncI fs x i) from funext fun i => by rw [HTG.out.2.has, propext (HTG.out.2.ancI i)]] at this))
  have HLa := Lib.hid (fun W A (hE : E w8 W) (hA : LotsAt W A 1 1 [x]) => gLater_c X7 g fs A 1 1 [x] W (HG78.out.e hE) hA (HGE.out.sm HN9.out))
  have HLb := Lib.hid (fun W A (hE : E w8 W) (hA : LotsAt W A 1 1 [x]) => gLater_c X8 g2 (turnF fs s) A 1 1 [x] W (HG8.out.e hE) hA ((HGE.out.sm HN9.out).turn s))
  have HSA := Lib.hid HTG.out.2
  unfold ltV at HRa HRb HAa HAb
  have hb8 := HB8.out.lt
  have hEa := (E.refl w8).drew
  have HWX1 := Lib.hid HWX.out
  clear hr
  go_upto_region 9 with fail
  go_region_held3 (fun w' => w8.heap.size ≤ w'.heap.size ∧ ∀ b o, b < w8.heap.size → w'.cell? ⟨b, o, none⟩ = w8.cell? ⟨b, o, none⟩) (first | exact keepE hEa | exact keepE (hEa.alloc _) | exact keepE ((hEa.alloc _).alloc _))
    (first
      | (go_at_call 19; (with_reducible refine (HRa.out _ hEa).mono ?_); rintro e wn ⟨A6, n6, c6, rfl, hO6, hEn⟩; replace hEa := hEa.trans hEn; have R6 := hO6.reads)
      | (go_at_call 19; (with_reducible refine (HRb.out _ hEa).mono ?_); rintro e wn ⟨A7, n7, c7, rfl, hO7, hEn⟩; replace hEa := hEa.trans hEn; have R7 := hO7.reads; replace R6 := R6.e hEn)
      | (go_at_call 22; (with_reducible refine (HAa.out _ hEa).mono ?_); rintro e wn ⟨la, hla, A8, n8, c8, rfl, hO8, hEn⟩; replace hEa := hEa.trans hEn; have R8 := hO8.reads)
      | (go_at_call 22; (with_reducible refine (HAb.out _ hEa).mono ?_); rintro e wn ⟨lb, hlb, A9, n9, c9, rfl, hO9, hEn⟩; replace hEa := hEa.trans hEn; have R9 := hO9.reads; replace R8 := R8.e hEn; have hll := Sorted.eq hla hlb; rw [← hll] at R9)
      | (go_at_call 13; (with_reducible refine (same_self _ _ _ _ _ _ _ _ R6 R7).mono ?_); rintro e wn ⟨rfl, hEn⟩; replace hEa := hEa.trans hEn; clear R6 R7)
      | (go_at_call 21; (with_reducible refine (same03_c _ _ _ _ _ _ _ _ _ R8 R9).mono ?_); rintro e wn ⟨he, m, hm⟩; rw [show ∀ l : List Int, sameB l l = true from fun l => by simp [sameB]] at he; subst he; replace hEa := hEa.drewN m; rw [← hm] at hEa; clear hm R8 R9)
      | (go_at_call 14; (with_reducible refine (HLa.out _ _ (hEa.alloc _) (lot_new HWX.out)).mono ?_); rintro e wn ⟨ls, hls, A4, n4, c4, rfl, hO4, hEn⟩; replace hEa := (hEa.alloc _).trans hEn; have R4 := hO4.reads)
      | (go_at_call 14; (with_reducible refine (HLa.out _ _ ((hEa.alloc _).alloc _) (LotsAt.e (lot_new HWX.out) ((E.refl _).alloc _))).mono ?_); rintro e wn ⟨ls, hls, A4, n4, c4, rfl, hO4, hEn⟩; have B5 := LotsAt.e (lot_new1 HWX.out) hEn; replace hEa := ((hEa.alloc _).alloc _).trans hEn; have R4 := hO4.reads)
      | (go_at_call 14; (with_reducible refine (HLa.out _ _ ((hEa.alloc _).alloc _) (lot_new1 HWX.out)).mono ?_); rintro e wn ⟨ls, hls, A4, n4, c4, rfl, hO4, hEn⟩; have B5 := LotsAt.e (LotsAt.e (lot_new HWX.out) ((E.refl _).alloc _)) hEn; replace hEa := ((hEa.alloc _).alloc _).trans hEn; have R4 := hO4.reads)
      | (go_at_call 14; (with_reducible refine (HLb.out _ _ (hEa.alloc _) (lot_new HWX.out)).mono ?_); rintro e wn ⟨lt, hlt, A5, n5, c5, rfl, hO5, hEn⟩; replace R4 := (R4.e ((E.refl _).alloc _)).e hEn; replace hEa := (hEa.alloc _).trans hEn; have R5 := hO5.reads; have hl5 := LaterOf.eq hls (HSA.out.later hlt); rw [← hl5] at R5)
      | (go_at_call 14; (with_reducible refine (HLb.out _ _ hEa B5).mono ?_); rintro e wn ⟨lt, hlt, A5, n5, c5, rfl, hO5, hEn⟩; replace R4 := R4.e hEn; replace hEa := hEa.trans hEn; have R5 := hO5.reads; have hl5 := LaterOf.eq hls (HSA.out.later hlt); rw [← hl5] at R5)
      | (go_at_call 13; (with_reducible refine (same_self _ _ _ _ _ _ _ _ R4 R5).mono ?_); rintro e wn ⟨rfl, hEn⟩; replace hEa := hEa.trans hEn)
      | (go_at_call 16; (with_reducible refine (HLV.out _).mono ?_); rintro e wn ⟨rfl, hEn⟩; replace hEa := hEa.trans hEn))
  all_goals (
    go_wp2_with fail
    go_ret
    exact ⟨rfl, (HE1.out.trans HE18.out).trans hEa⟩)
end Go.Proofs.Ytmeplpiamkaniaa
