/- Lemmas of the claim, joined: LawOL. No condition. -/
import Derived.Test.YtmeplpiamkaniaaJM
import Derived.Test.YtmeplpiamkaniaaJI
/- OriginLater: Later agrees with the model. -/
namespace Go.Proofs.Ytmeplpiamkaniaa
set_option linter.unusedVariables false
set_option linter.unusedSimpArgs false
open Go.RowKit

set_option linter.unusedSimpArgs false in
set_option maxHeartbeats 16000000 in
set_option maxRecDepth 100000 in
theorem originLater_w (A0 : Option Addr) (n0 c0 : Nat) (l0 : List Int) (A1 : Option Addr) (n1 c1 : Nat) (l1 : List Int) (many : Int) (w : World) (h0 : Nums .i64 w A0 n0 c0 l0) (h1 : Nums .i64 w A1 n1 c1 l1) (hc1 : -9223372036854775808 ≤ many) (hc2 : many ≤ 9223372036854775807) :
    Calls Try.prog 3 #[.slice A0 n0 c0, .slice A1 n1 c1, .int .i64 many] w (RetK w true) := by
  have HFL := Lib.hid (refFlows_c A0 n0 c0 l0 w h0)
  have H1 := Lib.hid h1
  have HAR := Lib.hid (fun W => aroundR many 4 W hc1 hc2 (by omega) (by omega))
  have hm0 := Int.emod_nonneg many (b := 4) (by omega)
  have hm1 := Int.emod_lt_of_pos many (b := 4) (by omega)
  generalize many % 4 = mm at *
  clear h0 h1
  go_enter Try.func3, Try.ntmps3
  go_upto_region 2 with (go_at_call 9; refine HFL.out.mono ?_; rintro e w1 ⟨fs, A7, n7, c7, hGen, hn9, rfl, hF, hE1⟩)
  have HGE := Lib.hid hGen
  have HF := Lib.hid hF
  have HE1 := Lib.hid hE1
  have HN9 := Lib.hid hn9
  have HNW := Lib.hid (newOk_c A7 n7 c7 fs w1 hF (by omega) hGen.made hGen.ok)
  have HLV := Lib.hid (fun W => lives15_c W)
  clear hGen hF hE1 hn9
  go_upto_region 5 with (go_at_call 10; refine HNW.out.mono ?_; rintro e w2 ⟨g, X, rfl, hG, hE2, hX2⟩)
  have HG := Lib.hid hG
  have HE2 := Lib.hid hE2
  have HLT := Lib.hid (fun (at_ : Nat) W (hE : E w2 W) (hat : at_ ≤ 1000) => refLot_c A7 n7 c7 fs A1 n1 c1 l1 at_ W (HF.out.e (HE2.out.trans hE)) HGE.out.rng (H1.out.e ((HE1.out.trans HE2.out).trans hE)) hat)
  clear hG hE2 hX2 HNW
  go_wp2_with fail
  go_loopw [10, 11] (fun t10 t11 wr => ∃ (i c : Nat) (A : Option Addr) (S : List Lt), (i : Int) ≤ mm ∧ t11 = .int .i64 i ∧ t10 = .slice A i c ∧ OwnL wr w2.heap.size A i c S ∧ E w2 wr) (fun _ t11 _ => 4 - (intOf t11).toNat)
  case atStart => exact ⟨0, 0, none, [], hm0, rfl, rfl, OwnL.nil _ _, E.refl _⟩
  case round =>
    obtain ⟨i, c, A, S, hi, rfl, rfl, hO, hE⟩ := hrel
    go_wp2_with fail
    refine (HAR.out _).mono ?_
    rintro e wq ⟨rfl, rfl⟩
    by_cases hlt : (i : Int) < mm
    · have hi3 : (i : Int) ≤ 3 := by omega
      have hi0 : (0 : Int) ≤ (i : Int) := by omega
      have HL3 := Lib.hid (HLT.out (3 * i) wr hE (by omega))
      rw [show ((3 * i : Nat) : Int) = 3 * (i : Int) by omega] at HL3
      have HOI := Lib.hid hO
      have HEI := Lib.hid hE
      clear hO hE
      obtain ⟨wq, hwq⟩ : ∃ wq, wq = wr := ⟨_, rfl⟩
      subst hwq
      go_wp2_with (first
        | (go_at_call 12; refine HL3.out.mono ?_; rintro e w3 ⟨x, hwx, he, hE3⟩; unfold ltV at he; subst he)
        | (at_builtin; refine wpList_appL _ rfl _ _ rfl w2.heap.size _ _ _ _ rfl (HOI.out.e (hE3.trans ((E.refl w3).alloc (.cells #[.int .i64 x.1, .int .i64 x.2.1, .int .i64 x.2.2] 32)))) _ 1 1 [x] rfl (lot_new (w := w3) hwx) (by omega) (by rw [World.size_alloc]; have := (HEI.out.trans hE3).le; omega) ?_; intro A6 c6 w6 hO6 hG6 hB6 hor6))
      go_roundw
      case rel => exact ⟨i + 1, c6, A6, _, by omega, by go_num, rfl, hO6, ((HEI.out.trans hE3).alloc _).up hB6⟩
      case measure => simp [intOf] <;> omega
    · have hi4 : i ≤ 4 := by omega
      have R := Lib.hid hO.reads
      have HLA := Lib.hid (gLater_c X g fs A i c S wr (HG.out.e hE) hO.reads (HGE.out.sm HN9.out))
      have HLB := Lib.hid (fun W (hW : E wr W) => refLater_c A7 n7 c7 fs A i c S W (HF.out.e ((HE2.out.trans hE).trans hW)) (hO.reads.e hW) HGE.out.ok (by have := HGE.out.c2304 HN9.out; omega))
      have HEZ := Lib.hid hE
      clear hO hE
      go_wp2_with fail
      refine HLA.out.mono ?_
      rintro e w5 ⟨la, hla, A41, n41, c41, rfl, hO41, hE5⟩
      have HLB5 := Lib.hid (HLB.out w5 hE5)
      have HR41 := Lib.hid hO41.reads
      have HLA1 := Lib.hid hla
      have HE5 := Lib.hid hE5
      clear hO41 hla hE5 HLA
      go_wp2_with fail
      refine HLB5.out.mono ?_
      rintro e w6 ⟨lb, hlb, A44, n44, c44, rfl, hO44, hE6⟩
      have heq : la = lb := HLA1.out.eq hlb
      subst heq
      have HS := Lib.hid (same_self A41 A44 n41 c41 n44 c44 la w6 (HR41.out.e hE6) hO44.reads)
      have HE6 := Lib.hid (HE5.out.trans hE6)
      clear hlb hO44 hE6 HLB5
      go_wp2_with fail
      refine HS.out.mono ?_
      rintro e w7 ⟨rfl, hE7⟩
      go_wp2_with fail
      refine (HLV.out _).mono ?_
      rintro e w8 ⟨rfl, hE8⟩
      go_wp2_with fail
      go_ret
      exact ⟨rfl, ((((HE1.out.trans HE2.out).trans HEZ.out).trans HE6.out).trans hE7).trans hE8⟩
end Go.Proofs.Ytmeplpiamkaniaa
